/- A contract at a few arguments. Conditions: none. -/
import Derived.Test.YtkmfigmiehpcpaaGreatDoorLW2
set_option linter.all false
namespace Go.Sv
open Go.Idl
def q8X {α:Type}(f:α->α->Bool):List α->List α->Bool
 | [],[]=>true
 | x::l,y::m=>f x y&&q8X f l m
 | _,_=>false
theorem qMS {α:Type}{f:α->α->Bool}(hf:∀ x y,f x y=true->x=y):∀ {l m:List α},q8X f l m=true->l=m
 | [],[],_=>rfl
 | x::l,y::m,h=>by
   simp only[q8X,zNT] at h;rw[hf x y h.1,qMS hf h.2]
 | [],_::_,h=>by cases h
 | _::_,[],h=>by cases h
def eqv:(t:Ty)->t.sem->t.sem->Bool
 | .int _=>fun a b=>decide ((a:Int)=b)
 | .str=>fun a b=>q8X (fun x y=>decide (x=y)) (a:ByteArray).data.toList (b:ByteArray).data.toList
 | .list _ u=>fun a b=>q8X (eqv u) a b
 | .pair u v=>fun a b=>eqv u a.1 b.1&&eqv v a.2 b.2
 | _=>fun _ _=>false
theorem qKJ:∀ {t:Ty} {a b:t.sem},eqv t a b=true->a=b
 | .int _,a,b,h=>of_decide_eq_true h
 | .str,a,b,h=>by
   have h:=qMS (f:=fun x y=>decide (x=y)) (fun _ _ h=>of_decide_eq_true h) h;obtain⟨⟨l⟩⟩:=a;obtain⟨⟨m⟩⟩:=b;have h:l=m:=h;rw[h]
 | .list _ u,a,b,h=>qMS (fun _ _ h=>qKJ h) h
 | .pair u v,a,b,h=>by
   have h:(eqv u a.1 b.1&&eqv v a.2 b.2)=true:=h;rw[zNT] at h;exact Prod.ext (qKJ h.1) (qKJ h.2)
 | .bool,_,_,h=>by cases h
 | .unit,_,_,h=>by cases h
 | .raw,_,_,h=>by cases h
 | .ol _ _,_,_,h=>by cases h
 | .nif,_,_,h=>by cases h
def q91:(ts:List Ty)->TyL ts->TyL ts->Bool
 | []=>fun _ _=>true
 | [t]=>fun a b=>eqv t a b
 | t::u::ts=>fun a b=>eqv t a.1 b.1&&q91 (u::ts) a.2 b.2
theorem qXQ:∀ {ts:List Ty} {a b:TyL ts},q91 ts a b=true->a=b
 | [],_,_,_=>rfl
 | [t],a,b,h=>qKJ h
 | t::u::ts,a,b,h=>by
   have h:(eqv t a.1 b.1&&q91 (u::ts) a.2 b.2)=true:=h;rw[zNT] at h;exact Prod.ext (qKJ h.1) (qXQ h.2)
def atE (A:List Ty){R:Type}:List (TyL A×R)->TyL A->Option R
 | [],_=>none
 | p::l,x=>cond (q91 A x p.1) (some p.2) (atE A l x)
theorem qNQ {A:List Ty}{R:Type}{F:TyL A->Option R}:∀ {l:List (TyL A×R)},(∀ p∈l,F p.1=some p.2)->∀ x y,atE A l x=some y->F x=some y
 | [],_,_,_,h=>by cases h
 | p::l,hl,x,y,h=>by
   unfold atE at h
   cases hb:q91 A x p.1 with
   | true =>
     rw[hb] at h;cases h;rw[qXQ hb];exact hl p zN1
   | false =>
     rw[hb] at h;exact qNQ (fun q hq=>hl q (zNZ _ hq)) x y h
section
variable [Gc]
variable {P:Program}{good:FuncId->Bool}{G:Nat->Bool}{T:z8}{IT:List (FuncId×zEY)}
theorem Lib.sub {T':z8}(L:Lib P good G T IT)(h:∀ g e,slT g T'=some e->slT g T=some e):Lib P good G T' IT:=by
 obtain⟨nat,tab,s,ht,hit⟩:=L;exact⟨nat,tab,s,fun g e hg=>ht g e (h g e hg),hit⟩
theorem Lib.cut {g:FuncId}{a b:Ent}(L:Lib P good G ((g,a)::(g,b)::T) IT):Lib P good G ((g,a)::T) IT:=L.sub fun g' e h=>by
 have h:cond (Nat.beq g' g) (some a) (slT g' T)=some e:=h;show cond (Nat.beq g' g) (some a) (cond (Nat.beq g' g) (some b) (slT g' T))=some e
 cases hb:Nat.beq g' g with
 | true=>rw[hb] at h;exact h
 | false=>rw[hb] at h;exact h
theorem Lib.addN (L:Lib P good G T IT)(g:FuncId)(az rs:List Ty)(hent:enters P g=true):Lib P good G ((g,⟨az,rs,fun _=>none⟩)::T) IT :=
 L.zFT g az rs (fun _=>none) hent fun _ x y args H h=>by cases h
end
end Go.Sv
