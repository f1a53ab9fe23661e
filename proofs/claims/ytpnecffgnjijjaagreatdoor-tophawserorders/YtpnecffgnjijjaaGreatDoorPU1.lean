/- Plain laws of chapter 9: small functions. Conditions: none. -/
import Derived.Test.YtpnecffgnjijjaaGreatDoorPB9
import Derived.Test.YtpnecffgnjijjaaGreatDoorPLQ
set_option linter.all false
set_option maxRecDepth 10000
set_option maxHeartbeats 100000000
namespace Go.Proofs.YtpnecffgnjijjaaGreatDoor
open Go Go.Idl Go.Sv Go.Proofs
section
variable {R α β σ ρ τ:Type}
theorem qTS {R S τ:Type}{F:S->Option (S⊕τ)}{K:τ->zE9 R}{s s':S}(h:F s=some (.inl s')):zE9.bind (zG F s) K=zE9.bind (zG F s') K:=by
 rw[wC F s,h]
theorem qAY {R S τ:Type}{F:S->Option (S⊕τ)}{K:τ->zE9 R}{s:S}{t:τ}(h:F s=some (.inr t)):zE9.bind (zG F s) K=K t:=by
 rw[wC F s,h];rfl
end
def outs (x a b:Int):Bool:=decide (x < a)||decide (b < x)
theorem h57 (x a b:Int):H30 (x,a,b)=some (outs x a b):=by
 show (G30 x a b).run=_;unfold G30 outs zT;cases decide (x < a) <;> rfl
theorem h59 (c:Bool)(k:Int):H21 (c,k)=some (cond c k 0):=by cases c <;> rfl
def fnz:List Int->Int
 | []=>0
 | x::l=>cond (x != 0) x (fnz l)
noncomputable def F58 (l:List Int)(s1:Int):Option (Int⊕(Int⊕Int⊕Nat×Int)):=zE9.ite (decide (s1 < (↑l.length:Int))) (zE9.bind (idx l.length s1) fun (x2:Nat)=>zE9.bind l[x2]? fun (x3:Int)=>zE9.ite (x3 != 0) (zE9.ret (Sum.inr (Sum.inr (Sum.inl x3)))) (zE9.ret (Sum.inl (IntKind.i64.wrap (s1+1))))) (zE9.ret (Sum.inr (Sum.inl s1)))
theorem h58 (l:List Int)(hl:l.length < 2 ^ 62):H19 l=some (fnz l):=by
 have key:∀ (m k:Nat),k+m=l.length->(zE9.bind (zG (F58 l) (k:Int)) fun (x1:Int⊕Int⊕Nat×Int)=>zE9.sum x1 (fun (s2:Int)=>(zE9.ret 0:zE9 Int)) fun (s2:Int⊕Nat×Int)=>zE9.sum s2 (fun (s3:Int)=>zE9.ret s3) fun (s3:Nat×Int)=>zE9.fail)=zE9.ret (fnz (l.drop k)):=by
  intro m
  induction m with
  | zero =>
    intro k hk
    have hF:F58 l (k:Int)=some (.inr (.inl (k:Int))):=by
     unfold F58;rw[qCY (by omega)];rfl
    rw[qAY hF,List.drop_eq_nil_of_le (by omega)];rfl
  | succ m ih =>
    intro k hk;have hlt:k < l.length:=by omega
    rw[zP0 hlt]
    cases hc:(l[k] != 0) with
    | true =>
      have hF:F58 l (k:Int)=some (.inr (.inr (.inl l[k]))):=by
       unfold F58;rw[qAG (by omega),q4K,qYJ hlt,qP6,zM2 hlt,qP6,hc];rfl
      rw[qAY hF];unfold fnz;rw[hc];rfl
    | false =>
      have hF:F58 l (k:Int)=some (.inl ((k+1:Nat):Int)):=by
       unfold F58;rw[qAG (by omega),q4K,qYJ hlt,qP6,zM2 hlt,qP6,hc,q6H,jC (by omega)];rfl
      rw[qTS hF,ih (k+1) (by omega)];show zE9.ret (fnz (l.drop (k+1)))=zE9.ret (cond (l[k] != 0) l[k] (fnz (l.drop (k+1))));rw[hc];rfl
 exact key l.length 0 (by omega)
theorem qR6 {n:Int}(h0:-4611686018427387904<=n)(h1:n<=4611686018427387904):IntKind.i64.wrap n=n:=by
 have hw:IntKind.i64.wrap n=if (true&&decide (n % (18446744073709551616:Int) ≥ 9223372036854775808))=true then n % (18446744073709551616:Int) - 18446744073709551616 else n % (18446744073709551616:Int):=rfl;rw[hw];simp only[zPX,decide_eq_true_eq];split <;> omega
theorem zCQ (b:Bool):zT b true=b:=rfl
theorem qCZ (b:Bool):zT b false=!b:=rfl
theorem qKA {l:List Int}{i:Nat}(h:i < l.length):l.getD i 0=l[i]:=by
 rw[zOE,zM2 h];rfl
theorem h69 {a b:Int}{l:List Int}(hl:l.length < 2 ^ 62):H93 (a,b,l)=some (cond (l.any fun x=>outs x a b) 3 0):=by
 refine OkT.eq ?_;show OkT (G93 a b l) _;unfold G93;refine uO l.length (fun k=>outs (l.getD k 0) a b=true) (fun k=>.inr (.inl (k:Int))) (.inl (l.length:Int)) ?_ ?_ ?_ ?_
 ·intro k hk;refine xV (qAG (by omega)) (zH k rfl hk (zB hk ?_));rw[qKA hk];unfold outs;refine yV (fun h=>yV (fun h2=>qC (.inl ⟨?_,rfl⟩)) fun h2=>qC (.inr ⟨?_,?_⟩)) fun h=>qC (.inl ⟨?_,rfl⟩)
  ·rw[h2,zQR]
  ·rw[qCZ,zNJ] at h;simp[h,h2]
  ·rw[jC (show k < 2 ^ 62 by omega)]
  ·rw[qCZ,zPI] at h;rw[h,Bool.true_or]
 ·exact kD (qCY (by omega)) (qC rfl)
 ·intro k hk hp _;rw[qKA hk] at hp;show OkT (zE9.bind (H21 (decide (0<=(k:Int)),3)) fun (x6:Int)=>(zE9.ret x6:zE9 Int)) _;refine zO (h59 _ _) (qC ?_);rw[show (l.any fun x=>outs x a b)=true from List.any_eq_true.2 ⟨_,zOG hk,hp⟩,show decide (0<=(k:Int))=true from decide_eq_true (by omega)]
 ·intro hn;refine qC ?_;rw[show (l.any fun x=>outs x a b)=false from zPY.2 fun x hx=>?_]
  ·rfl
  ·obtain⟨i,hi,rfl⟩:=zN3.1 hx;rw[<-qKA hi];exact hn i hi
theorem h72 {l:List Int}(hl:l.length < 2 ^ 62):H14 l=some (!(l.any fun x=>outs x 0 1000000)):=by
 refine OkT.eq ?_;show OkT (G14 l) _;unfold G14;refine uO l.length (fun k=>outs (l.getD k 0) 0 1000000=true) (fun k=>.inr (.inl false)) (.inl (l.length:Int)) ?_ ?_ ?_ ?_
 ·intro k hk;refine xV (qAG (by omega)) (zH k rfl hk (zB hk ?_));rw[qKA hk];refine zO (h57 _ _ _) (yV (fun h=>qC (.inl ⟨h,rfl⟩)) fun h=>qC (.inr ⟨by simp[h],?_⟩));rw[jC (show k < 2 ^ 62 by omega)]
 ·exact kD (qCY (by omega)) (qC rfl)
 ·intro k hk hp _;rw[qKA hk] at hp;refine qC ?_;rw[show (l.any fun x=>outs x 0 1000000)=true from List.any_eq_true.2 ⟨_,zOG hk,hp⟩];rfl
 ·intro hn;refine qC ?_;rw[show (l.any fun x=>outs x 0 1000000)=false from zPY.2 fun x hx=>?_]
  ·rfl
  ·obtain⟨i,hi,rfl⟩:=zN3.1 hx;rw[<-qKA hi];exact hn i hi
def qYW (ts:List Int)(m:Int):Int:=cond (decide (32 < (ts.length:Int))) 5 (cond ((ts.any fun x=>outs x 0 1000000)||outs m 1 16) 3 0)
theorem h75 {ts:List Int}(hl:ts.length < 2 ^ 62):H60 ts=some (cond (ts.any fun x=>outs x 0 1000000) 3 0):=OkT.eq (zO (h69 hl) (qC rfl))
theorem h45 {l:List Int}(hl:l.length < 2 ^ 62):H13 (l,l)=some true:=by
 refine OkT.eq ?_;show OkT (G13 l l) _;unfold G13;refine kD (by simp) ?_;refine uO l.length (fun k=>False) (fun k=>.inr (.inl false)) (.inl (l.length:Int)) ?_ ?_ ?_ ?_
 ·intro k hk;refine xV (qAG (by omega)) (zH k rfl hk (zB hk (zH k rfl hk (zB hk (kD (by simp) (qC (.inr ⟨fun h=>h,?_⟩)))))));rw[jC (show k < 2 ^ 62 by omega)]
 ·exact kD (qCY (by omega)) (qC rfl)
 ·intro k hk hp _;exact hp.elim
 ·intro hn;exact qC rfl
def mx:List Int->Int
 | []=>0
 | x::l=>if mx l < x then x else mx l
end Go.Proofs.YtpnecffgnjijjaaGreatDoor
