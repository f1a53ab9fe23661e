/- Plain laws of chapter 9: small functions. Conditions: none. -/
import Derived.Test.YtdohendjiddokaaGreatDoorPB9
import Derived.Test.YtdohendjiddokaaGreatDoorPLQ
set_option linter.all false
set_option maxRecDepth 10000
set_option maxHeartbeats 100000000
namespace Go.Proofs.YtdohendjiddokaaGreatDoor
open Go Go.Idl Go.Sv Go.Proofs
section
variable {R α β σ ρ τ:Type}
theorem qXQ {R S τ:Type}{F:S->Option (S⊕τ)}{K:τ->zGM R}{s s':S}(h:F s=some (.inl s')):zGM.bind (zH F s) K=zGM.bind (zH F s') K:=by
 rw[wN F s,h]
theorem qCW {R S τ:Type}{F:S->Option (S⊕τ)}{K:τ->zGM R}{s:S}{t:τ}(h:F s=some (.inr t)):zGM.bind (zH F s) K=K t:=by
 rw[wN F s,h];rfl
end
def outs (x a b:Int):Bool:=decide (x < a)||decide (b < x)
theorem h57 (x a b:Int):H57 (x,a,b)=some (outs x a b):=by
 show (G57 x a b).run=_;unfold G57 outs zM;cases decide (x < a) <;> rfl
theorem h59 (c:Bool)(k:Int):H59 (c,k)=some (cond c k 0):=by cases c <;> rfl
def fnz:List Int->Int
 | []=>0
 | x::l=>cond (x != 0) x (fnz l)
noncomputable def F58 (l:List Int)(s1:Int):Option (Int⊕(Int⊕Int⊕Nat×Int)):=zGM.ite (decide (s1 < (↑l.length:Int))) (zGM.bind (idx l.length s1) fun (x2:Nat)=>zGM.bind l[x2]? fun (x3:Int)=>zGM.ite (x3 != 0) (zGM.ret (Sum.inr (Sum.inr (Sum.inl x3)))) (zGM.ret (Sum.inl (IntKind.i64.wrap (s1+1))))) (zGM.ret (Sum.inr (Sum.inl s1)))
theorem h58 (l:List Int)(hl:l.length < 2 ^ 62):H58 l=some (fnz l):=by
 have key:∀ (m k:Nat),k+m=l.length->(zGM.bind (zH (F58 l) (k:Int)) fun (x1:Int⊕Int⊕Nat×Int)=>zGM.sum x1 (fun (s2:Int)=>(zGM.ret 0:zGM Int)) fun (s2:Int⊕Nat×Int)=>zGM.sum s2 (fun (s3:Int)=>zGM.ret s3) fun (s3:Nat×Int)=>zGM.fail)=zGM.ret (fnz (l.drop k)):=by
  intro m
  induction m with
  | zero =>
    intro k hk
    have hF:F58 l (k:Int)=some (.inr (.inl (k:Int))):=by
     unfold F58;rw[qWQ (by omega)];rfl
    rw[qCW hF,List.drop_eq_nil_of_le (by omega)];rfl
  | succ m ih =>
    intro k hk;have hlt:k < l.length:=by omega
    rw[zSY hlt]
    cases hc:(l[k] != 0) with
    | true =>
      have hF:F58 l (k:Int)=some (.inr (.inr (.inl l[k]))):=by
       unfold F58;rw[qT5 (by omega),q5V,qXP hlt,qPV,zP2 hlt,qPV,hc];rfl
      rw[qCW hF];unfold fnz;rw[hc];rfl
    | false =>
      have hF:F58 l (k:Int)=some (.inl ((k+1:Nat):Int)):=by
       unfold F58;rw[qT5 (by omega),q5V,qXP hlt,qPV,zP2 hlt,qPV,hc,q8X,qAH (by omega)];rfl
      rw[qXQ hF,ih (k+1) (by omega)];show zGM.ret (fnz (l.drop (k+1)))=zGM.ret (cond (l[k] != 0) l[k] (fnz (l.drop (k+1))));rw[hc];rfl
 exact key l.length 0 (by omega)
theorem aP {n:Int}(h0:-4611686018427387904<=n)(h1:n<=4611686018427387904):IntKind.i64.wrap n=n:=by
 have hw:IntKind.i64.wrap n=if (true&&decide (n % (18446744073709551616:Int) ≥ 9223372036854775808))=true then n % (18446744073709551616:Int) - 18446744073709551616 else n % (18446744073709551616:Int):=rfl;rw[hw];simp only[zUQ,decide_eq_true_eq];split <;> omega
theorem zEU (b:Bool):zM b true=b:=rfl
theorem qZ4 (b:Bool):zM b false=!b:=rfl
theorem q64 {l:List Int}{i:Nat}(h:i < l.length):l.getD i 0=l[i]:=by
 rw[zQN,zP2 h];rfl
theorem h69 {a b:Int}{l:List Int}(hl:l.length < 2 ^ 62):H69 (a,b,l)=some (cond (l.any fun x=>outs x a b) 3 0):=by
 refine OkT.eq ?_;show OkT (G69 a b l) _;unfold G69;refine qGL l.length (fun k=>outs (l.getD k 0) a b=true) (fun k=>.inr (.inl (k:Int))) (.inl (l.length:Int)) ?_ ?_ ?_ ?_
 ·intro k hk;refine eY (qT5 (by omega)) (yF k rfl hk (yH hk ?_));rw[q64 hk];unfold outs;refine kI (fun h=>kI (fun h2=>qM (.inl ⟨?_,rfl⟩)) fun h2=>qM (.inr ⟨?_,?_⟩)) fun h=>qM (.inl ⟨?_,rfl⟩)
  ·rw[h2,zUH]
  ·rw[qZ4,zQX] at h;simp[h,h2]
  ·rw[qAH (show k < 2 ^ 62 by omega)]
  ·rw[qZ4,Bool.not_eq_false'] at h;rw[h,Bool.true_or]
 ·exact qD1 (qWQ (by omega)) (qM rfl)
 ·intro k hk hp _;rw[q64 hk] at hp;show OkT (zGM.bind (H59 (decide (0<=(k:Int)),3)) fun (x6:Int)=>(zGM.ret x6:zGM Int)) _;refine zR (h59 _ _) (qM ?_);rw[show (l.any fun x=>outs x a b)=true from List.any_eq_true.2 ⟨_,zSN hk,hp⟩,show decide (0<=(k:Int))=true from decide_eq_true (by omega)]
 ·intro hn;refine qM ?_;rw[show (l.any fun x=>outs x a b)=false from List.any_eq_false.2 fun x hx=>?_]
  ·rfl
  ·obtain⟨i,hi,rfl⟩:=zSW.1 hx;rw[<-q64 hi];exact hn i hi
def qZ8 (ts:List Int)(m:Int):Int:=cond (decide (32 < (ts.length:Int))) 5 (cond ((ts.any fun x=>outs x 0 1000000)||outs m 1 16) 3 0)
def mx:List Int->Int
 | []=>0
 | x::l=>if mx l < x then x else mx l
end Go.Proofs.YtdohendjiddokaaGreatDoor
