/- Plain laws of chapter 9: small functions. Conditions: none. -/
import Derived.Test.YtjcflcpjglpicaaGreatDoorPB9
import Derived.Test.YtjcflcpjglpicaaGreatDoorPLQ
set_option linter.all false
set_option maxRecDepth 10000
set_option maxHeartbeats 100000000
namespace Go.Proofs.YtjcflcpjglpicaaGreatDoor
open Go Go.Idl Go.Sv Go.Proofs
section
variable {R α β σ ρ τ:Type}
theorem qVA {R S τ:Type}{F:S->Option (S⊕τ)}{K:τ->zF6 R}{s s':S}(h:F s=some (.inl s')):zF6.bind (zK F s) K=zF6.bind (zK F s') K:=by
 rw[wF F s,h]
theorem qCL {R S τ:Type}{F:S->Option (S⊕τ)}{K:τ->zF6 R}{s:S}{t:τ}(h:F s=some (.inr t)):zF6.bind (zK F s) K=K t:=by
 rw[wF F s,h];rfl
end
def outs (x a b:Int):Bool:=decide (x < a)||decide (b < x)
theorem h57 (x a b:Int):H57 (x,a,b)=some (outs x a b):=by
 show (G57 x a b).run=_;unfold G57 outs yL;cases decide (x < a) <;> rfl
theorem h59 (c:Bool)(k:Int):H59 (c,k)=some (cond c k 0):=by cases c <;> rfl
def fnz:List Int->Int
 | []=>0
 | x::l=>cond (x != 0) x (fnz l)
noncomputable def F58 (l:List Int)(s1:Int):Option (Int⊕(Int⊕Int⊕Nat×Int)):=zF6.ite (decide (s1 < (↑l.length:Int))) (zF6.bind (idx l.length s1) fun (x2:Nat)=>zF6.bind l[x2]? fun (x3:Int)=>zF6.ite (x3 != 0) (zF6.ret (Sum.inr (Sum.inr (Sum.inl x3)))) (zF6.ret (Sum.inl (IntKind.i64.wrap (s1+1))))) (zF6.ret (Sum.inr (Sum.inl s1)))
theorem h58 (l:List Int)(hl:l.length < 2 ^ 62):H58 l=some (fnz l):=by
 have key:∀ (m k:Nat),k+m=l.length->(zF6.bind (zK (F58 l) (k:Int)) fun (x1:Int⊕Int⊕Nat×Int)=>zF6.sum x1 (fun (s2:Int)=>(zF6.ret 0:zF6 Int)) fun (s2:Int⊕Nat×Int)=>zF6.sum s2 (fun (s3:Int)=>zF6.ret s3) fun (s3:Nat×Int)=>zF6.fail)=zF6.ret (fnz (l.drop k)):=by
  intro m
  induction m with
  | zero =>
    intro k hk
    have hF:F58 l (k:Int)=some (.inr (.inl (k:Int))):=by
     unfold F58;rw[qMG (by omega)];rfl
    rw[qCL hF,List.drop_eq_nil_of_le (by omega)];rfl
  | succ m ih =>
    intro k hk;have hlt:k < l.length:=by omega
    rw[zSI hlt]
    cases hc:(l[k] != 0) with
    | true =>
      have hF:F58 l (k:Int)=some (.inr (.inr (.inl l[k]))):=by
       unfold F58;rw[qK9 (by omega),q4Q,qT7 hlt,qO9,zPO hlt,qO9,hc];rfl
      rw[qCL hF];unfold fnz;rw[hc];rfl
    | false =>
      have hF:F58 l (k:Int)=some (.inl ((k+1:Nat):Int)):=by
       unfold F58;rw[qK9 (by omega),q4Q,qT7 hlt,qO9,zPO hlt,qO9,hc,q8D,aB (by omega)];rfl
      rw[qVA hF,ih (k+1) (by omega)];show zF6.ret (fnz (l.drop (k+1)))=zF6.ret (cond (l[k] != 0) l[k] (fnz (l.drop (k+1))));rw[hc];rfl
 exact key l.length 0 (by omega)
theorem uI {n:Int}(h0:-4611686018427387904<=n)(h1:n<=4611686018427387904):IntKind.i64.wrap n=n:=by
 have hw:IntKind.i64.wrap n=if (true&&decide (n % (18446744073709551616:Int) ≥ 9223372036854775808))=true then n % (18446744073709551616:Int) - 18446744073709551616 else n % (18446744073709551616:Int):=rfl;rw[hw];simp only[zT8,decide_eq_true_eq];split <;> omega
theorem zEB (b:Bool):yL b true=b:=rfl
theorem zB2 (b:Bool):yL b false=!b:=rfl
theorem q8Y {l:List Int}{i:Nat}(h:i < l.length):l.getD i 0=l[i]:=by
 rw[zQZ,zPO h];rfl
theorem h69 {a b:Int}{l:List Int}(hl:l.length < 2 ^ 62):H69 (a,b,l)=some (cond (l.any fun x=>outs x a b) 3 0):=by
 refine OkT.eq ?_;show OkT (G69 a b l) _;unfold G69;refine sU l.length (fun k=>outs (l.getD k 0) a b=true) (fun k=>.inr (.inl (k:Int))) (.inl (l.length:Int)) ?_ ?_ ?_ ?_
 ·intro k hk;refine jR (qK9 (by omega)) (zA k rfl hk (zB hk ?_));rw[q8Y hk];unfold outs;refine yV (fun h=>yV (fun h2=>qG (.inl ⟨?_,rfl⟩)) fun h2=>qG (.inr ⟨?_,?_⟩)) fun h=>qG (.inl ⟨?_,rfl⟩)
  ·rw[h2,zT0]
  ·rw[zB2,zQH] at h;simp[h,h2]
  ·rw[aB (show k < 2 ^ 62 by omega)]
  ·rw[zB2,Bool.not_eq_false'] at h;rw[h,Bool.true_or]
 ·exact aR (qMG (by omega)) (qG rfl)
 ·intro k hk hp _;rw[q8Y hk] at hp;show OkT (zF6.bind (H59 (decide (0<=(k:Int)),3)) fun (x6:Int)=>(zF6.ret x6:zF6 Int)) _;refine qU (h59 _ _) (qG ?_);rw[show (l.any fun x=>outs x a b)=true from List.any_eq_true.2 ⟨_,zR7 hk,hp⟩,show decide (0<=(k:Int))=true from decide_eq_true (by omega)]
 ·intro hn;refine qG ?_;rw[show (l.any fun x=>outs x a b)=false from List.any_eq_false.2 fun x hx=>?_]
  ·rfl
  ·obtain⟨i,hi,rfl⟩:=zSG.1 hx;rw[<-q8Y hi];exact hn i hi
def qZX (ts:List Int)(m:Int):Int:=cond (decide (32 < (ts.length:Int))) 5 (cond ((ts.any fun x=>outs x 0 1000000)||outs m 1 16) 3 0)
theorem h45 {l:List Int}(hl:l.length < 2 ^ 62):H45 (l,l)=some true:=by
 refine OkT.eq ?_;show OkT (G45 l l) _;unfold G45;refine aR (by simp) ?_;refine sU l.length (fun k=>False) (fun k=>.inr (.inl false)) (.inl (l.length:Int)) ?_ ?_ ?_ ?_
 ·intro k hk;refine jR (qK9 (by omega)) (zA k rfl hk (zB hk (zA k rfl hk (zB hk (aR (by simp) (qG (.inr ⟨fun h=>h,?_⟩)))))));rw[aB (show k < 2 ^ 62 by omega)]
 ·exact aR (qMG (by omega)) (qG rfl)
 ·intro k hk hp _;exact hp.elim
 ·intro hn;exact qG rfl
theorem zC7 {b:Int}(w:Int)(hb:b≠0):H16 (0,b,b,w)=some true:=by
 refine OkT.eq ?_;show OkT (G16 0 b b w) _;unfold G16;exact jR (by simp[hb]) (jR rfl (qG (by simp)))
theorem zE9 (x:Int):H16 (x,0,0,x)=some true:=by
 refine OkT.eq ?_;show OkT (G16 x 0 0 x) _;unfold G16;exact aR rfl (jR rfl (qG (by simp)))
theorem zDS {b:Int}(w:List Int)(hb:b≠0):H17 ([],b,b,w)=some true:=by
 refine OkT.eq ?_;show OkT (G17 [] b b w) _;unfold G17;exact jR (by simp[hb]) (jR rfl (qG (by simp)))
theorem zFC {l:List Int}(hl:l.length < 2 ^ 62):H17 (l,0,0,l)=some true:=by
 refine OkT.eq ?_;show OkT (G17 l 0 0 l) _;unfold G17;exact aR rfl (jR rfl (qU (h45 hl) (qG rfl)))
def mx:List Int->Int
 | []=>0
 | x::l=>if mx l < x then x else mx l
end Go.Proofs.YtjcflcpjglpicaaGreatDoor
