/- A contract at a few arguments. Conditions: none. -/
import Derived.Test.YtmojbdabaigobaaGreatDoorLW2
set_option linter.all false
namespace Go.Sv
open Go.Idl
def q9O {α:Type}(f:α->α->Bool):List α->List α->Bool
 | [],[]=>true
 | x::l,y::m=>f x y&&q9O f l m
 | _,_=>false
theorem qNJ {α:Type}{f:α->α->Bool}(hf:∀ x y,f x y=true->x=y):∀ {l m:List α},q9O f l m=true->l=m
 | [],[],_=>rfl
 | x::l,y::m,h=>by
   simp only[q9O,zOG] at h;rw[hf x y h.1,qNJ hf h.2]
 | [],_::_,h=>by cases h
 | _::_,[],h=>by cases h
def eqv:(t:Ty)->t.sem->t.sem->Bool
 | .int _=>fun a b=>decide ((a:Int)=b)
 | .str=>fun a b=>q9O (fun x y=>decide (x=y)) (a:ByteArray).data.toList (b:ByteArray).data.toList
 | .list _ u=>fun a b=>q9O (eqv u) a b
 | .pair u v=>fun a b=>eqv u a.1 b.1&&eqv v a.2 b.2
 | _=>fun _ _=>false
theorem qKG:∀ {t:Ty} {a b:t.sem},eqv t a b=true->a=b
 | .int _,a,b,h=>of_decide_eq_true h
 | .str,a,b,h=>by
   have h:=qNJ (f:=fun x y=>decide (x=y)) (fun _ _ h=>of_decide_eq_true h) h;obtain⟨⟨l⟩⟩:=a;obtain⟨⟨m⟩⟩:=b;have h:l=m:=h;rw[h]
 | .list _ u,a,b,h=>qNJ (fun _ _ h=>qKG h) h
 | .pair u v,a,b,h=>by
   have h:(eqv u a.1 b.1&&eqv v a.2 b.2)=true:=h;rw[zOG] at h;exact Prod.ext (qKG h.1) (qKG h.2)
 | .bool,_,_,h=>by cases h
 | .unit,_,_,h=>by cases h
 | .raw,_,_,h=>by cases h
 | .ol _ _,_,_,h=>by cases h
 | .nif,_,_,h=>by cases h
def q83:(ts:List Ty)->TyL ts->TyL ts->Bool
 | []=>fun _ _=>true
 | [t]=>fun a b=>eqv t a b
 | t::u::ts=>fun a b=>eqv t a.1 b.1&&q83 (u::ts) a.2 b.2
theorem qVK:∀ {ts:List Ty} {a b:TyL ts},q83 ts a b=true->a=b
 | [],_,_,_=>rfl
 | [t],a,b,h=>qKG h
 | t::u::ts,a,b,h=>by
   have h:(eqv t a.1 b.1&&q83 (u::ts) a.2 b.2)=true:=h;rw[zOG] at h;exact Prod.ext (qKG h.1) (qVK h.2)
def atE (A:List Ty){R:Type}:List (TyL A×R)->TyL A->Option R
 | [],_=>none
 | p::l,x=>cond (q83 A x p.1) (some p.2) (atE A l x)
theorem qMH {A:List Ty}{R:Type}{F:TyL A->Option R}:∀ {l:List (TyL A×R)},(∀ p∈l,F p.1=some p.2)->∀ x y,atE A l x=some y->F x=some y
 | [],_,_,_,h=>by cases h
 | p::l,hl,x,y,h=>by
   unfold atE at h
   cases hb:q83 A x p.1 with
   | true =>
     rw[hb] at h;cases h;rw[qVK hb];exact hl p zON
   | false =>
     rw[hb] at h;exact qMH (fun q hq=>hl q (zOK _ hq)) x y h
section
variable [Gc]
variable {P:Program}{good:FuncId->Bool}{G:Nat->Bool}{T:yE}{IT:List (FuncId×zFI)}
end
end Go.Sv
