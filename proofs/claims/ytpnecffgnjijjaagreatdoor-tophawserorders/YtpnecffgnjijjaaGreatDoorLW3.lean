/- A contract at a few arguments. Conditions: none. -/
import Derived.Test.YtpnecffgnjijjaaGreatDoorLW2
set_option linter.all false
namespace Go.Sv
open Go.Idl
def q9L {α:Type}(f:α->α->Bool):List α->List α->Bool
 | [],[]=>true
 | x::l,y::m=>f x y&&q9L f l m
 | _,_=>false
theorem qL2 {α:Type}{f:α->α->Bool}(hf:∀ x y,f x y=true->x=y):∀ {l m:List α},q9L f l m=true->l=m
 | [],[],_=>rfl
 | x::l,y::m,h=>by
   simp only[q9L,zMY] at h;rw[hf x y h.1,qL2 hf h.2]
 | [],_::_,h=>by cases h
 | _::_,[],h=>by cases h
def eqv:(t:Ty)->t.sem->t.sem->Bool
 | .int _=>fun a b=>decide ((a:Int)=b)
 | .str=>fun a b=>q9L (fun x y=>decide (x=y)) (a:ByteArray).data.toList (b:ByteArray).data.toList
 | .list _ u=>fun a b=>q9L (eqv u) a b
 | .pair u v=>fun a b=>eqv u a.1 b.1&&eqv v a.2 b.2
 | _=>fun _ _=>false
theorem qKH:∀ {t:Ty} {a b:t.sem},eqv t a b=true->a=b
 | .int _,a,b,h=>of_decide_eq_true h
 | .str,a,b,h=>by
   have h:=qL2 (f:=fun x y=>decide (x=y)) (fun _ _ h=>of_decide_eq_true h) h;obtain⟨⟨l⟩⟩:=a;obtain⟨⟨m⟩⟩:=b;have h:l=m:=h;rw[h]
 | .list _ u,a,b,h=>qL2 (fun _ _ h=>qKH h) h
 | .pair u v,a,b,h=>by
   have h:(eqv u a.1 b.1&&eqv v a.2 b.2)=true:=h;rw[zMY] at h;exact Prod.ext (qKH h.1) (qKH h.2)
 | .bool,_,_,h=>by cases h
 | .unit,_,_,h=>by cases h
 | .raw,_,_,h=>by cases h
 | .ol _ _,_,_,h=>by cases h
 | .nif,_,_,h=>by cases h
 | .fnv _,_,_,h=>by cases h
def q9B:(ts:List Ty)->TyL ts->TyL ts->Bool
 | []=>fun _ _=>true
 | [t]=>fun a b=>eqv t a b
 | t::u::ts=>fun a b=>eqv t a.1 b.1&&q9B (u::ts) a.2 b.2
theorem qUT:∀ {ts:List Ty} {a b:TyL ts},q9B ts a b=true->a=b
 | [],_,_,_=>rfl
 | [t],a,b,h=>qKH h
 | t::u::ts,a,b,h=>by
   have h:(eqv t a.1 b.1&&q9B (u::ts) a.2 b.2)=true:=h;rw[zMY] at h;exact Prod.ext (qKH h.1) (qUT h.2)
def atE (A:List Ty){R:Type}:List (TyL A×R)->TyL A->Option R
 | [],_=>none
 | p::l,x=>cond (q9B A x p.1) (some p.2) (atE A l x)
theorem qYD {A:List Ty}{R:Type}{F:TyL A->Option R}:∀ {l:List (TyL A×R)},(∀ p∈l,F p.1=some p.2)->∀ x y,atE A l x=some y->F x=some y
 | [],_,_,_,h=>by cases h
 | p::l,hl,x,y,h=>by
   unfold atE at h
   cases hb:q9B A x p.1 with
   | true =>
     rw[hb] at h;cases h;rw[qUT hb];exact hl p zM5
   | false =>
     rw[hb] at h;exact qYD (fun q hq=>hl q (zM3 _ hq)) x y h
section
variable [Gc]
variable {P:Program}{good:FuncId->Bool}{G:Nat->Bool}{T:yY}{IT:List (FuncId×zFV)}
end
end Go.Sv
