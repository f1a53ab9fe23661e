/- Plain laws of chapter 9: small functions. Conditions: none. -/
import Derived.Test.YtmojbdabaigobaaGreatDoorPB9
import Derived.Test.YtmojbdabaigobaaGreatDoorPLQ
set_option linter.all false
set_option maxRecDepth 10000
set_option maxHeartbeats 100000000
namespace Go.Proofs.YtmojbdabaigobaaGreatDoor
open Go Go.Idl Go.Sv Go.Proofs
section
variable {R α β σ ρ τ:Type}
theorem qYJ {R S τ:Type}{F:S->Option (S⊕τ)}{K:τ->zEY R}{s s':S}(h:F s=some (.inl s')):zEY.bind (qZ F s) K=zEY.bind (qZ F s') K:=by
 rw[wB F s,h]
theorem qB8 {R S τ:Type}{F:S->Option (S⊕τ)}{K:τ->zEY R}{s:S}{t:τ}(h:F s=some (.inr t)):zEY.bind (qZ F s) K=K t:=by
 rw[wB F s,h];rfl
end
def outs (x a b:Int):Bool:=decide (x < a)||decide (b < x)
theorem h57 (x a b:Int):H57 (x,a,b)=some (outs x a b):=by
 show (G57 x a b).run=_;unfold G57 outs zJ;cases decide (x < a) <;> rfl
theorem h59 (c:Bool)(k:Int):H59 (c,k)=some (cond c k 0):=by cases c <;> rfl
def fnz:List Int->Int
 | []=>0
 | x::l=>cond (x != 0) x (fnz l)
noncomputable def F58 (l:List Int)(s1:Int):Option (Int⊕(Int⊕Int⊕Nat×Int)):=zEY.ite (decide (s1 < (↑l.length:Int))) (zEY.bind (idx l.length s1) fun (x2:Nat)=>zEY.bind l[x2]? fun (x3:Int)=>zEY.ite (x3 != 0) (zEY.ret (Sum.inr (Sum.inr (Sum.inl x3)))) (zEY.ret (Sum.inl (IntKind.i64.wrap (s1+1))))) (zEY.ret (Sum.inr (Sum.inl s1)))
theorem h58 (l:List Int)(hl:l.length < 2 ^ 62):H58 l=some (fnz l):=by
 have key:∀ (m k:Nat),k+m=l.length->(zEY.bind (qZ (F58 l) (k:Int)) fun (x1:Int⊕Int⊕Nat×Int)=>zEY.sum x1 (fun (s2:Int)=>(zEY.ret 0:zEY Int)) fun (s2:Int⊕Nat×Int)=>zEY.sum s2 (fun (s3:Int)=>zEY.ret s3) fun (s3:Nat×Int)=>zEY.fail)=zEY.ret (fnz (l.drop k)):=by
  intro m
  induction m with
  | zero =>
    intro k hk
    have hF:F58 l (k:Int)=some (.inr (.inl (k:Int))):=by
     unfold F58;rw[sM (by omega)];rfl
    rw[qB8 hF,List.drop_eq_nil_of_le (by omega)];rfl
  | succ m ih =>
    intro k hk;have hlt:k < l.length:=by omega
    rw[zRI hlt]
    cases hc:(l[k] != 0) with
    | true =>
      have hF:F58 l (k:Int)=some (.inr (.inr (.inl l[k]))):=by
       unfold F58;rw[pG (by omega),q4P,qUG hlt,qPD,zOL hlt,qPD,hc];rfl
      rw[qB8 hF];unfold fnz;rw[hc];rfl
    | false =>
      have hF:F58 l (k:Int)=some (.inl ((k+1:Nat):Int)):=by
       unfold F58;rw[pG (by omega),q4P,qUG hlt,qPD,zOL hlt,qPD,hc,q7P,kU (by omega)];rfl
      rw[qYJ hF,ih (k+1) (by omega)];show zEY.ret (fnz (l.drop (k+1)))=zEY.ret (cond (l[k] != 0) l[k] (fnz (l.drop (k+1))));rw[hc];rfl
 exact key l.length 0 (by omega)
theorem qDK {n:Int}(h0:-4611686018427387904<=n)(h1:n<=4611686018427387904):IntKind.i64.wrap n=n:=by
 have hw:IntKind.i64.wrap n=if (true&&decide (n % (18446744073709551616:Int) ≥ 9223372036854775808))=true then n % (18446744073709551616:Int) - 18446744073709551616 else n % (18446744073709551616:Int):=rfl;rw[hw];simp only[zRQ,decide_eq_true_eq];split <;> omega
theorem zBW (b:Bool):zJ b true=b:=rfl
theorem mZ (b:Bool):zJ b false=!b:=rfl
theorem qSH {l:List Int}{i:Nat}(h:i < l.length):l.getD i 0=l[i]:=by
 rw[zPH,zOL h];rfl
theorem h69 {a b:Int}{l:List Int}(hl:l.length < 2 ^ 62):H69 (a,b,l)=some (cond (l.any fun x=>outs x a b) 3 0):=by
 refine OkT.eq ?_;show OkT (G69 a b l) _;unfold G69;refine wH l.length (fun k=>outs (l.getD k 0) a b=true) (fun k=>.inr (.inl (k:Int))) (.inl (l.length:Int)) ?_ ?_ ?_ ?_
 ·intro k hk;refine yL (pG (by omega)) (qY k rfl hk (qR hk ?_));rw[qSH hk];unfold outs;refine zT (fun h=>zT (fun h2=>qC (.inl ⟨?_,rfl⟩)) fun h2=>qC (.inr ⟨?_,?_⟩)) fun h=>qC (.inl ⟨?_,rfl⟩)
  ·rw[h2,zR8]
  ·rw[mZ,zO3] at h;simp[h,h2]
  ·rw[kU (show k < 2 ^ 62 by omega)]
  ·rw[mZ,zQC] at h;rw[h,Bool.true_or]
 ·exact xV (sM (by omega)) (qC rfl)
 ·intro k hk hp _;rw[qSH hk] at hp;show OkT (zEY.bind (H59 (decide (0<=(k:Int)),3)) fun (x6:Int)=>(zEY.ret x6:zEY Int)) _;refine zF (h59 _ _) (qC ?_);rw[show (l.any fun x=>outs x a b)=true from List.any_eq_true.2 ⟨_,zP8 hk,hp⟩,show decide (0<=(k:Int))=true from decide_eq_true (by omega)]
 ·intro hn;refine qC ?_;rw[show (l.any fun x=>outs x a b)=false from zQ7.2 fun x hx=>?_]
  ·rfl
  ·obtain⟨i,hi,rfl⟩:=zPI.1 hx;rw[<-qSH hi];exact hn i hi
theorem h72 {l:List Int}(hl:l.length < 2 ^ 62):H72 l=some (!(l.any fun x=>outs x 0 1000000)):=by
 refine OkT.eq ?_;show OkT (G72 l) _;unfold G72;refine wH l.length (fun k=>outs (l.getD k 0) 0 1000000=true) (fun k=>.inr (.inl false)) (.inl (l.length:Int)) ?_ ?_ ?_ ?_
 ·intro k hk;refine yL (pG (by omega)) (qY k rfl hk (qR hk ?_));rw[qSH hk];refine zF (h57 _ _ _) (zT (fun h=>qC (.inl ⟨h,rfl⟩)) fun h=>qC (.inr ⟨by simp[h],?_⟩));rw[kU (show k < 2 ^ 62 by omega)]
 ·exact xV (sM (by omega)) (qC rfl)
 ·intro k hk hp _;rw[qSH hk] at hp;refine qC ?_;rw[show (l.any fun x=>outs x 0 1000000)=true from List.any_eq_true.2 ⟨_,zP8 hk,hp⟩];rfl
 ·intro hn;refine qC ?_;rw[show (l.any fun x=>outs x 0 1000000)=false from zQ7.2 fun x hx=>?_]
  ·rfl
  ·obtain⟨i,hi,rfl⟩:=zPI.1 hx;rw[<-qSH hi];exact hn i hi
def qY2 (ts:List Int)(m:Int):Int:=cond (decide (32 < (ts.length:Int))) 5 (cond ((ts.any fun x=>outs x 0 1000000)||outs m 1 16) 3 0)
theorem h75 {ts:List Int}(hl:ts.length < 2 ^ 62):H75 ts=some (cond (ts.any fun x=>outs x 0 1000000) 3 0):=OkT.eq (zF (h69 hl) (qC rfl))
theorem h45 {l:List Int}(hl:l.length < 2 ^ 62):H45 (l,l)=some true:=by
 refine OkT.eq ?_;show OkT (G45 l l) _;unfold G45;refine xV (by simp) ?_;refine wH l.length (fun k=>False) (fun k=>.inr (.inl false)) (.inl (l.length:Int)) ?_ ?_ ?_ ?_
 ·intro k hk;refine yL (pG (by omega)) (qY k rfl hk (qR hk (qY k rfl hk (qR hk (xV (by simp) (qC (.inr ⟨fun h=>h,?_⟩)))))));rw[kU (show k < 2 ^ 62 by omega)]
 ·exact xV (sM (by omega)) (qC rfl)
 ·intro k hk hp _;exact hp.elim
 ·intro hn;exact qC rfl
def mx:List Int->Int
 | []=>0
 | x::l=>if mx l < x then x else mx l
end Go.Proofs.YtmojbdabaigobaaGreatDoor
