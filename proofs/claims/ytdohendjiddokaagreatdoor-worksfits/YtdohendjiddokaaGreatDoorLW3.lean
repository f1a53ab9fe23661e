/- A contract at a few arguments. Conditions: none. -/
import Derived.Test.YtdohendjiddokaaGreatDoorLW2
set_option linter.all false
namespace Go.Sv
open Go.Idl
def zB3 {α:Type}(f:α->α->Bool):List α->List α->Bool
 | [],[]=>true
 | x::l,y::m=>f x y&&zB3 f l m
 | _,_=>false
theorem qO2 {α:Type}{f:α->α->Bool}(hf:∀ x y,f x y=true->x=y):∀ {l m:List α},zB3 f l m=true->l=m
 | [],[],_=>rfl
 | x::l,y::m,h=>by
   simp only[zB3,zPY] at h;rw[hf x y h.1,qO2 hf h.2]
 | [],_::_,h=>by cases h
 | _::_,[],h=>by cases h
def eqv:(t:Ty)->t.sem->t.sem->Bool
 | .int _=>fun a b=>decide ((a:Int)=b)
 | .str=>fun a b=>zB3 (fun x y=>decide (x=y)) (a:ByteArray).data.toList (b:ByteArray).data.toList
 | .list _ u=>fun a b=>zB3 (eqv u) a b
 | .pair u v=>fun a b=>eqv u a.1 b.1&&eqv v a.2 b.2
 | _=>fun _ _=>false
theorem qJB:∀ {t:Ty} {a b:t.sem},eqv t a b=true->a=b
 | .int _,a,b,h=>of_decide_eq_true h
 | .str,a,b,h=>by
   have h:=qO2 (f:=fun x y=>decide (x=y)) (fun _ _ h=>of_decide_eq_true h) h;obtain⟨⟨l⟩⟩:=a;obtain⟨⟨m⟩⟩:=b;have h:l=m:=h;rw[h]
 | .list _ u,a,b,h=>qO2 (fun _ _ h=>qJB h) h
 | .pair u v,a,b,h=>by
   have h:(eqv u a.1 b.1&&eqv v a.2 b.2)=true:=h;rw[zPY] at h;exact Prod.ext (qJB h.1) (qJB h.2)
 | .bool,_,_,h=>by cases h
 | .unit,_,_,h=>by cases h
 | .raw,_,_,h=>by cases h
 | .ol _ _,_,_,h=>by cases h
 | .nif,_,_,h=>by cases h
def zAD:(ts:List Ty)->TyL ts->TyL ts->Bool
 | []=>fun _ _=>true
 | [t]=>fun a b=>eqv t a b
 | t::u::ts=>fun a b=>eqv t a.1 b.1&&zAD (u::ts) a.2 b.2
theorem qVX:∀ {ts:List Ty} {a b:TyL ts},zAD ts a b=true->a=b
 | [],_,_,_=>rfl
 | [t],a,b,h=>qJB h
 | t::u::ts,a,b,h=>by
   have h:(eqv t a.1 b.1&&zAD (u::ts) a.2 b.2)=true:=h;rw[zPY] at h;exact Prod.ext (qJB h.1) (qVX h.2)
def atE (A:List Ty){R:Type}:List (TyL A×R)->TyL A->Option R
 | [],_=>none
 | p::l,x=>cond (zAD A x p.1) (some p.2) (atE A l x)
theorem qOS {A:List Ty}{R:Type}{F:TyL A->Option R}:∀ {l:List (TyL A×R)},(∀ p∈l,F p.1=some p.2)->∀ x y,atE A l x=some y->F x=some y
 | [],_,_,_,h=>by cases h
 | p::l,hl,x,y,h=>by
   unfold atE at h
   cases hb:zAD A x p.1 with
   | true =>
     rw[hb] at h;cases h;rw[qVX hb];exact hl p zQB
   | false =>
     rw[hb] at h;exact qOS (fun q hq=>hl q (zP6 _ hq)) x y h
section
variable [Gc]
variable {P:Program}{good:FuncId->Bool}{G:Nat->Bool}{T:zX}{IT:List (FuncId×zG6)}
end
end Go.Sv
