/- Plain laws of chapter 9: small functions. Conditions: none. -/
import Derived.Test.YtmkiipeghngchaaGreatDoorPB9
import Derived.Test.YtmkiipeghngchaaGreatDoorPLQ
set_option linter.all false
set_option maxRecDepth 10000
set_option maxHeartbeats 100000000
namespace Go.Proofs.YtmkiipeghngchaaGreatDoor
open Go Go.Idl Go.Sv Go.Proofs
section
variable {R α β σ ρ τ:Type}
theorem qVL {R S τ:Type}{F:S->Option (S⊕τ)}{K:τ->zFC R}{s s':S}(h:F s=some (.inl s')):zFC.bind (zO F s) K=zFC.bind (zO F s') K:=by
 rw[wD F s,h]
theorem qDF {R S τ:Type}{F:S->Option (S⊕τ)}{K:τ->zFC R}{s:S}{t:τ}(h:F s=some (.inr t)):zFC.bind (zO F s) K=K t:=by
 rw[wD F s,h];rfl
end
def outs (x a b:Int):Bool:=decide (x < a)||decide (b < x)
theorem h57 (x a b:Int):H57 (x,a,b)=some (outs x a b):=by
 show (G57 x a b).run=_;unfold G57 outs yB;cases decide (x < a) <;> rfl
theorem h59 (c:Bool)(k:Int):H59 (c,k)=some (cond c k 0):=by cases c <;> rfl
def fnz:List Int->Int
 | []=>0
 | x::l=>cond (x != 0) x (fnz l)
noncomputable def F58 (l:List Int)(s1:Int):Option (Int⊕(Int⊕Int⊕Nat×Int)):=zFC.ite (decide (s1 < (↑l.length:Int))) (zFC.bind (idx l.length s1) fun (x2:Nat)=>zFC.bind l[x2]? fun (x3:Int)=>zFC.ite (x3 != 0) (zFC.ret (Sum.inr (Sum.inr (Sum.inl x3)))) (zFC.ret (Sum.inl (IntKind.i64.wrap (s1+1))))) (zFC.ret (Sum.inr (Sum.inl s1)))
theorem h58 (l:List Int)(hl:l.length < 2 ^ 62):H58 l=some (fnz l):=by
 have key:∀ (m k:Nat),k+m=l.length->(zFC.bind (zO (F58 l) (k:Int)) fun (x1:Int⊕Int⊕Nat×Int)=>zFC.sum x1 (fun (s2:Int)=>(zFC.ret 0:zFC Int)) fun (s2:Int⊕Nat×Int)=>zFC.sum s2 (fun (s3:Int)=>zFC.ret s3) fun (s3:Nat×Int)=>zFC.fail)=zFC.ret (fnz (l.drop k)):=by
  intro m
  induction m with
  | zero =>
    intro k hk
    have hF:F58 l (k:Int)=some (.inr (.inl (k:Int))):=by
     unfold F58;rw[qYM (by omega)];rfl
    rw[qDF hF,List.drop_eq_nil_of_le (by omega)];rfl
  | succ m ih =>
    intro k hk;have hlt:k < l.length:=by omega
    rw[zRR hlt]
    cases hc:(l[k] != 0) with
    | true =>
      have hF:F58 l (k:Int)=some (.inr (.inr (.inl l[k]))):=by
       unfold F58;rw[qTR (by omega),q4Z,qX8 hlt,qRV,zOX hlt,qRV,hc];rfl
      rw[qDF hF];unfold fnz;rw[hc];rfl
    | false =>
      have hF:F58 l (k:Int)=some (.inl ((k+1:Nat):Int)):=by
       unfold F58;rw[qTR (by omega),q4Z,qX8 hlt,qRV,zOX hlt,qRV,hc,q8V,sV (by omega)];rfl
      rw[qVL hF,ih (k+1) (by omega)];show zFC.ret (fnz (l.drop (k+1)))=zFC.ret (cond (l[k] != 0) l[k] (fnz (l.drop (k+1))));rw[hc];rfl
 exact key l.length 0 (by omega)
theorem qBI {n:Int}(h0:-4611686018427387904<=n)(h1:n<=4611686018427387904):IntKind.i64.wrap n=n:=by
 have hw:IntKind.i64.wrap n=if (true&&decide (n % (18446744073709551616:Int) ≥ 9223372036854775808))=true then n % (18446744073709551616:Int) - 18446744073709551616 else n % (18446744073709551616:Int):=rfl;rw[hw];simp only[zTI,decide_eq_true_eq];split <;> omega
theorem zEN (b:Bool):yB b true=b:=rfl
theorem qZP (b:Bool):yB b false=!b:=rfl
theorem jJ {l:List Int}{i:Nat}(h:i < l.length):l.getD i 0=l[i]:=by
 rw[zPX,zOX h];rfl
theorem h69 {a b:Int}{l:List Int}(hl:l.length < 2 ^ 62):H69 (a,b,l)=some (cond (l.any fun x=>outs x a b) 3 0):=by
 refine OkT.eq ?_;show OkT (G69 a b l) _;unfold G69;refine qUU l.length (fun k=>outs (l.getD k 0) a b=true) (fun k=>.inr (.inl (k:Int))) (.inl (l.length:Int)) ?_ ?_ ?_ ?_
 ·intro k hk;refine aR (qTR (by omega)) (yY k rfl hk (kD hk ?_));rw[jJ hk];unfold outs;refine wT (fun h=>wT (fun h2=>qR (.inl ⟨?_,rfl⟩)) fun h2=>qR (.inr ⟨?_,?_⟩)) fun h=>qR (.inl ⟨?_,rfl⟩)
  ·rw[h2,zTC]
  ·rw[qZP,zPN] at h;simp[h,h2]
  ·rw[sV (show k < 2 ^ 62 by omega)]
  ·rw[qZP,Bool.not_eq_false'] at h;rw[h,Bool.true_or]
 ·exact qJZ (qYM (by omega)) (qR rfl)
 ·intro k hk hp _;rw[jJ hk] at hp;show OkT (zFC.bind (H59 (decide (0<=(k:Int)),3)) fun (x6:Int)=>(zFC.ret x6:zFC Int)) _;refine zS (h59 _ _) (qR ?_);rw[show (l.any fun x=>outs x a b)=true from List.any_eq_true.2 ⟨_,zPW hk,hp⟩,show decide (0<=(k:Int))=true from decide_eq_true (by omega)]
 ·intro hn;refine qR ?_;rw[show (l.any fun x=>outs x a b)=false from zRP.2 fun x hx=>?_]
  ·rfl
  ·obtain⟨i,hi,rfl⟩:=zQA.1 hx;rw[<-jJ hi];exact hn i hi
theorem h72 {l:List Int}(hl:l.length < 2 ^ 62):H72 l=some (!(l.any fun x=>outs x 0 1000000)):=by
 refine OkT.eq ?_;show OkT (G72 l) _;unfold G72;refine qUU l.length (fun k=>outs (l.getD k 0) 0 1000000=true) (fun k=>.inr (.inl false)) (.inl (l.length:Int)) ?_ ?_ ?_ ?_
 ·intro k hk;refine aR (qTR (by omega)) (yY k rfl hk (kD hk ?_));rw[jJ hk];refine zS (h57 _ _ _) (wT (fun h=>qR (.inl ⟨h,rfl⟩)) fun h=>qR (.inr ⟨by simp[h],?_⟩));rw[sV (show k < 2 ^ 62 by omega)]
 ·exact qJZ (qYM (by omega)) (qR rfl)
 ·intro k hk hp _;rw[jJ hk] at hp;refine qR ?_;rw[show (l.any fun x=>outs x 0 1000000)=true from List.any_eq_true.2 ⟨_,zPW hk,hp⟩];rfl
 ·intro hn;refine qR ?_;rw[show (l.any fun x=>outs x 0 1000000)=false from zRP.2 fun x hx=>?_]
  ·rfl
  ·obtain⟨i,hi,rfl⟩:=zQA.1 hx;rw[<-jJ hi];exact hn i hi
def qH0 (ts:List Int)(m:Int):Int:=cond (decide (32 < (ts.length:Int))) 5 (cond ((ts.any fun x=>outs x 0 1000000)||outs m 1 16) 3 0)
theorem h35 {ts:List Int}{m:Int}(hl:ts.length < 2 ^ 62):H35 (ts,m)=some (qH0 ts m):=by
 refine OkT.eq ?_;show OkT (G35 ts m) _;unfold G35 qH0;refine wT (fun h=>qR (by rw[h];rfl)) fun h=>zS (h72 hl) ?_
 rw[h]
 cases (ts.any fun x=>outs x 0 1000000) with
 | true=>exact qR rfl
 | false=>exact zS (h57 _ _ _) (wT (fun h=>qR (by rw[h];rfl)) fun h=>qR (by rw[h];rfl))
theorem h75 {ts:List Int}(hl:ts.length < 2 ^ 62):H75 ts=some (cond (ts.any fun x=>outs x 0 1000000) 3 0):=OkT.eq (zS (h69 hl) (qR rfl))
theorem h82 {ts:List Int}{m:Int}(hl:ts.length < 2 ^ 62):H82 (ts,m)=some (qH0 ts m):=by
 refine OkT.eq ?_;show OkT (G82 ts m) _;unfold G82 qH0;refine zS (h59 _ _) (zS (h75 hl) (zS (h69 (l:=[m]) (by simp)) (zS (h58 _ (by simp)) (qR ?_))));rw[show ([m].any fun x=>outs x 1 16)=outs m 1 16 from zSC _];cases decide (32 < (ts.length:Int)) <;> cases (ts.any fun x=>outs x 0 1000000) <;> cases outs m 1 16 <;> rfl
def mx:List Int->Int
 | []=>0
 | x::l=>if mx l < x then x else mx l
theorem pI:∀ (l:List Int),0<=mx l
 | []=>zP2 _
 | x::l=>by have:=pI l;unfold mx;split <;> omega
theorem qJA:∀ {l:List Int} {x:Int},x∈l->x<=mx l
 | y::l,x,h=>by
   rcases zPE.1 h with rfl | h
   ·unfold mx;split <;> omega
   ·have:=qJA h;unfold mx;split <;> omega
theorem qJQ:∀ (l:List Int),mx l=0∨mx l∈l
 | []=>.inl rfl
 | x::l=>by
   unfold mx;split
   ·exact .inr zO3
   ·rcases qJQ l with h | h
    ·exact .inl h
    ·exact .inr (zO0 _ h)
theorem q08 {l:List Int}{v:Int}(h0:0<=v)(h1:∀ x∈l,x<=v)(h2:v=0∨v∈l):mx l=v:=by
 have:=pI l
 have h3:mx l<=v:=by
  rcases qJQ l with h | h
  ·omega
  ·exact h1 _ h
 rcases h2 with h | h
 ·omega
 ·have:=qJA h;omega
theorem h83 {l:List Int}(h:0 < l.length)(h2:l.length<=1000)(hn:∀ x∈l,0<=x):H83 l=some (mx l):=by
 refine OkT.eq (OkT.mono (Q:=fun m=>m∈l∧∀ (j:Nat) (hj:j < l.length),l[j]<=m) ?_ ?_)
 ·show OkT (G83 l) _;unfold G83;refine qJZ (decide_eq_false (by omega)) (yY 0 rfl h (kD h ?_))
  refine qBZ (l.length - 1) (fun k s=>(s,((k+1:Nat):Int))) (fun k s=>s∈l∧∀ j (hj:j < l.length),j < k+1->l[j]<=s) l[0] rfl ⟨zPW h,fun j hj hk=>by
   have:j=0:=by omega
   subst this
   exact zP2 _⟩ ?_ ?_
  ·intro k s hk ⟨h3,h4⟩;have hk1:k+1 < l.length:=by omega
   refine aR (qTR (by simp only;omega)) (yY (k+1) rfl hk1 (kD hk1 (qR ⟨bif decide (s < l[k+1]) then l[k+1] else s,by simp only[sV (show k+1 < 2 ^ 62 by omega)],?_⟩)))
   cases hd:decide (s < l[k+1]) with
   | true =>
     have hd:=of_decide_eq_true hd;refine⟨zPW hk1,fun j hj hjk=>?_⟩;show l[j]<=l[k+1];by_cases e:j=k+1
     ·subst e;exact zP2 _
     ·have:=h4 j hj (by omega);omega
   | false =>
     have hd:=of_decide_eq_false hd;refine⟨h3,fun j hj hjk=>?_⟩;show l[j]<=s;by_cases e:j=k+1
     ·subst e;omega
     ·exact h4 j hj (by omega)
  ·intro s ⟨h3,h4⟩;refine qJZ (qYM (by simp only;omega)) (qR ⟨_,rfl,?_⟩);exact qR ⟨h3,fun j hj=>h4 j hj (by omega)⟩
 ·intro m ⟨h3,h4⟩
  exact (q08 (hn m h3) (fun x hx=>by
   obtain⟨i,hi,rfl⟩:=zQA.1 hx
   exact h4 i hi) (.inr h3)).symm
end Go.Proofs.YtmkiipeghngchaaGreatDoor
