/- Plain laws of chapter 9: small functions. Conditions: none. -/
import Derived.Test.YtkmfigmiehpcpaaGreatDoorPB9
import Derived.Test.YtkmfigmiehpcpaaGreatDoorPLQ
set_option linter.all false
set_option maxRecDepth 10000
set_option maxHeartbeats 100000000
namespace Go.Proofs.YtkmfigmiehpcpaaGreatDoor
open Go Go.Idl Go.Sv Go.Proofs
section
variable {R α β σ ρ τ:Type}
theorem qVB {R S τ:Type}{F:S->Option (S⊕τ)}{K:τ->zED R}{s s':S}(h:F s=some (.inl s')):zED.bind (qW F s) K=zED.bind (qW F s') K:=by
 rw[wD F s,h]
theorem qBQ {R S τ:Type}{F:S->Option (S⊕τ)}{K:τ->zED R}{s:S}{t:τ}(h:F s=some (.inr t)):zED.bind (qW F s) K=K t:=by
 rw[wD F s,h];rfl
end
def outs (x a b:Int):Bool:=decide (x < a)||decide (b < x)
theorem h57 (x a b:Int):H57 (x,a,b)=some (outs x a b):=by
 show (G57 x a b).run=_;unfold G57 outs zJ;cases decide (x < a) <;> rfl
theorem h59 (c:Bool)(k:Int):H59 (c,k)=some (cond c k 0):=by cases c <;> rfl
def fnz:List Int->Int
 | []=>0
 | x::l=>cond (x != 0) x (fnz l)
noncomputable def F58 (l:List Int)(s1:Int):Option (Int⊕(Int⊕Int⊕Nat×Int)):=zED.ite (decide (s1 < (↑l.length:Int))) (zED.bind (idx l.length s1) fun (x2:Nat)=>zED.bind l[x2]? fun (x3:Int)=>zED.ite (x3 != 0) (zED.ret (Sum.inr (Sum.inr (Sum.inl x3)))) (zED.ret (Sum.inl (IntKind.i64.wrap (s1+1))))) (zED.ret (Sum.inr (Sum.inl s1)))
theorem h58 (l:List Int)(hl:l.length < 2 ^ 62):H58 l=some (fnz l):=by
 have key:∀ (m k:Nat),k+m=l.length->(zED.bind (qW (F58 l) (k:Int)) fun (x1:Int⊕Int⊕Nat×Int)=>zED.sum x1 (fun (s2:Int)=>(zED.ret 0:zED Int)) fun (s2:Int⊕Nat×Int)=>zED.sum s2 (fun (s3:Int)=>zED.ret s3) fun (s3:Nat×Int)=>zED.fail)=zED.ret (fnz (l.drop k)):=by
  intro m
  induction m with
  | zero =>
    intro k hk
    have hF:F58 l (k:Int)=some (.inr (.inl (k:Int))):=by
     unfold F58;rw[mX (by omega)];rfl
    rw[qBQ hF,List.drop_eq_nil_of_le (by omega)];rfl
  | succ m ih =>
    intro k hk;have hlt:k < l.length:=by omega
    rw[zQU hlt]
    cases hc:(l[k] != 0) with
    | true =>
      have hF:F58 l (k:Int)=some (.inr (.inr (.inl l[k]))):=by
       unfold F58;rw[dW (by omega),q3Y,qW0 hlt,qPE,zNX hlt,qPE,hc];rfl
      rw[qBQ hF];unfold fnz;rw[hc];rfl
    | false =>
      have hF:F58 l (k:Int)=some (.inl ((k+1:Nat):Int)):=by
       unfold F58;rw[dW (by omega),q3Y,qW0 hlt,qPE,zNX hlt,qPE,hc,q6F,xO (by omega)];rfl
      rw[qVB hF,ih (k+1) (by omega)];show zED.ret (fnz (l.drop (k+1)))=zED.ret (cond (l[k] != 0) l[k] (fnz (l.drop (k+1))));rw[hc];rfl
 exact key l.length 0 (by omega)
theorem qNG {n:Int}(h0:-4611686018427387904<=n)(h1:n<=4611686018427387904):IntKind.i64.wrap n=n:=by
 have hw:IntKind.i64.wrap n=if (true&&decide (n % (18446744073709551616:Int) ≥ 9223372036854775808))=true then n % (18446744073709551616:Int) - 18446744073709551616 else n % (18446744073709551616:Int):=rfl;rw[hw];simp only[zQR,decide_eq_true_eq];split <;> omega
theorem qM0 (b:Bool):zJ b true=b:=rfl
theorem qF4 (b:Bool):zJ b false=!b:=rfl
theorem qSF {l:List Int}{i:Nat}(h:i < l.length):l.getD i 0=l[i]:=by
 rw[zO8,zNX h];rfl
theorem h69 {a b:Int}{l:List Int}(hl:l.length < 2 ^ 62):H69 (a,b,l)=some (cond (l.any fun x=>outs x a b) 3 0):=by
 refine OkT.eq ?_;show OkT (G69 a b l) _;unfold G69;refine vM l.length (fun k=>outs (l.getD k 0) a b=true) (fun k=>.inr (.inl (k:Int))) (.inl (l.length:Int)) ?_ ?_ ?_ ?_
 ·intro k hk;refine zS (dW (by omega)) (qQ k rfl hk (qP hk ?_));rw[qSF hk];unfold outs;refine zU (fun h=>zU (fun h2=>qA (.inl ⟨?_,rfl⟩)) fun h2=>qA (.inr ⟨?_,?_⟩)) fun h=>qA (.inl ⟨?_,rfl⟩)
  ·rw[h2,zRI]
  ·rw[qF4,zOE] at h;simp[h,h2]
  ·rw[xO (show k < 2 ^ 62 by omega)]
  ·rw[qF4,zPY] at h;rw[h,Bool.true_or]
 ·exact yH (mX (by omega)) (qA rfl)
 ·intro k hk hp _;rw[qSF hk] at hp;show OkT (zED.bind (H59 (decide (0<=(k:Int)),3)) fun (x6:Int)=>(zED.ret x6:zED Int)) _;refine qN (h59 _ _) (qA ?_);rw[show (l.any fun x=>outs x a b)=true from List.any_eq_true.2 ⟨_,zPE hk,hp⟩,show decide (0<=(k:Int))=true from decide_eq_true (by omega)]
 ·intro hn;refine qA ?_;rw[show (l.any fun x=>outs x a b)=false from zQS.2 fun x hx=>?_]
  ·rfl
  ·obtain⟨i,hi,rfl⟩:=zPC.1 hx;rw[<-qSF hi];exact hn i hi
theorem h72 {l:List Int}(hl:l.length < 2 ^ 62):H72 l=some (!(l.any fun x=>outs x 0 1000000)):=by
 refine OkT.eq ?_;show OkT (G72 l) _;unfold G72;refine vM l.length (fun k=>outs (l.getD k 0) 0 1000000=true) (fun k=>.inr (.inl false)) (.inl (l.length:Int)) ?_ ?_ ?_ ?_
 ·intro k hk;refine zS (dW (by omega)) (qQ k rfl hk (qP hk ?_));rw[qSF hk];refine qN (h57 _ _ _) (zU (fun h=>qA (.inl ⟨h,rfl⟩)) fun h=>qA (.inr ⟨by simp[h],?_⟩));rw[xO (show k < 2 ^ 62 by omega)]
 ·exact yH (mX (by omega)) (qA rfl)
 ·intro k hk hp _;rw[qSF hk] at hp;refine qA ?_;rw[show (l.any fun x=>outs x 0 1000000)=true from List.any_eq_true.2 ⟨_,zPE hk,hp⟩];rfl
 ·intro hn;refine qA ?_;rw[show (l.any fun x=>outs x 0 1000000)=false from zQS.2 fun x hx=>?_]
  ·rfl
  ·obtain⟨i,hi,rfl⟩:=zPC.1 hx;rw[<-qSF hi];exact hn i hi
def qYK (ts:List Int)(m:Int):Int:=cond (decide (32 < (ts.length:Int))) 5 (cond ((ts.any fun x=>outs x 0 1000000)||outs m 1 16) 3 0)
theorem h75 {ts:List Int}(hl:ts.length < 2 ^ 62):H75 ts=some (cond (ts.any fun x=>outs x 0 1000000) 3 0):=OkT.eq (qN (h69 hl) (qA rfl))
theorem h45 {l:List Int}(hl:l.length < 2 ^ 62):H45 (l,l)=some true:=by
 refine OkT.eq ?_;show OkT (G45 l l) _;unfold G45;refine yH (by simp) ?_;refine vM l.length (fun k=>False) (fun k=>.inr (.inl false)) (.inl (l.length:Int)) ?_ ?_ ?_ ?_
 ·intro k hk;refine zS (dW (by omega)) (qQ k rfl hk (qP hk (qQ k rfl hk (qP hk (yH (by simp) (qA (.inr ⟨fun h=>h,?_⟩)))))));rw[xO (show k < 2 ^ 62 by omega)]
 ·exact yH (mX (by omega)) (qA rfl)
 ·intro k hk hp _;exact hp.elim
 ·intro hn;exact qA rfl
theorem zCQ {b:Int}(w:Int)(hb:b≠0):H16 (0,b,b,w)=some true:=by
 refine OkT.eq ?_;show OkT (G16 0 b b w) _;unfold G16;exact zS (by simp[hb]) (zS rfl (qA (by simp)))
theorem zCC (x:Int):H16 (x,0,0,x)=some true:=by
 refine OkT.eq ?_;show OkT (G16 x 0 0 x) _;unfold G16;exact yH rfl (zS rfl (qA (by simp)))
theorem zBB {b:Int}(w:List Int)(hb:b≠0):H17 ([],b,b,w)=some true:=by
 refine OkT.eq ?_;show OkT (G17 [] b b w) _;unfold G17;exact zS (by simp[hb]) (zS rfl (qA (by simp)))
theorem zDR {l:List Int}(hl:l.length < 2 ^ 62):H17 (l,0,0,l)=some true:=by
 refine OkT.eq ?_;show OkT (G17 l 0 0 l) _;unfold G17;exact yH rfl (zS rfl (qN (h45 hl) (qA rfl)))
def mx:List Int->Int
 | []=>0
 | x::l=>if mx l < x then x else mx l
end Go.Proofs.YtkmfigmiehpcpaaGreatDoor
