/- A contract at a few arguments. Conditions: none. -/
import Derived.Test.YtjcflcpjglpicaaGreatDoorLW2
set_option linter.all false
namespace Go.Sv
open Go.Idl
def q94 {α:Type}(f:α->α->Bool):List α->List α->Bool
 | [],[]=>true
 | x::l,y::m=>f x y&&q94 f l m
 | _,_=>false
theorem qO3 {α:Type}{f:α->α->Bool}(hf:∀ x y,f x y=true->x=y):∀ {l m:List α},q94 f l m=true->l=m
 | [],[],_=>rfl
 | x::l,y::m,h=>by
   simp only[q94,zPK] at h;rw[hf x y h.1,qO3 hf h.2]
 | [],_::_,h=>by cases h
 | _::_,[],h=>by cases h
def eqv:(t:Ty)->t.sem->t.sem->Bool
 | .int _=>fun a b=>decide ((a:Int)=b)
 | .str=>fun a b=>q94 (fun x y=>decide (x=y)) (a:ByteArray).data.toList (b:ByteArray).data.toList
 | .list _ u=>fun a b=>q94 (eqv u) a b
 | .pair u v=>fun a b=>eqv u a.1 b.1&&eqv v a.2 b.2
 | _=>fun _ _=>false
theorem qLJ:∀ {t:Ty} {a b:t.sem},eqv t a b=true->a=b
 | .int _,a,b,h=>of_decide_eq_true h
 | .str,a,b,h=>by
   have h:=qO3 (f:=fun x y=>decide (x=y)) (fun _ _ h=>of_decide_eq_true h) h;obtain⟨⟨l⟩⟩:=a;obtain⟨⟨m⟩⟩:=b;have h:l=m:=h;rw[h]
 | .list _ u,a,b,h=>qO3 (fun _ _ h=>qLJ h) h
 | .pair u v,a,b,h=>by
   have h:(eqv u a.1 b.1&&eqv v a.2 b.2)=true:=h;rw[zPK] at h;exact Prod.ext (qLJ h.1) (qLJ h.2)
 | .bool,_,_,h=>by cases h
 | .unit,_,_,h=>by cases h
 | .raw,_,_,h=>by cases h
 | .ol _ _,_,_,h=>by cases h
 | .nif,_,_,h=>by cases h
def zAA:(ts:List Ty)->TyL ts->TyL ts->Bool
 | []=>fun _ _=>true
 | [t]=>fun a b=>eqv t a b
 | t::u::ts=>fun a b=>eqv t a.1 b.1&&zAA (u::ts) a.2 b.2
theorem qZP:∀ {ts:List Ty} {a b:TyL ts},zAA ts a b=true->a=b
 | [],_,_,_=>rfl
 | [t],a,b,h=>qLJ h
 | t::u::ts,a,b,h=>by
   have h:(eqv t a.1 b.1&&zAA (u::ts) a.2 b.2)=true:=h;rw[zPK] at h;exact Prod.ext (qLJ h.1) (qZP h.2)
def atE (A:List Ty){R:Type}:List (TyL A×R)->TyL A->Option R
 | [],_=>none
 | p::l,x=>cond (zAA A x p.1) (some p.2) (atE A l x)
theorem qOJ {A:List Ty}{R:Type}{F:TyL A->Option R}:∀ {l:List (TyL A×R)},(∀ p∈l,F p.1=some p.2)->∀ x y,atE A l x=some y->F x=some y
 | [],_,_,_,h=>by cases h
 | p::l,hl,x,y,h=>by
   unfold atE at h
   cases hb:zAA A x p.1 with
   | true =>
     rw[hb] at h;cases h;rw[qZP hb];exact hl p zPX
   | false =>
     rw[hb] at h;exact qOJ (fun q hq=>hl q (zPS _ hq)) x y h
section
variable [Gc]
variable {P:Program}{good:FuncId->Bool}{G:Nat->Bool}{T:zT}{IT:List (FuncId×zGS)}
theorem Lib.sub {T':zT}(L:Lib P good G T IT)(h:∀ g e,slT g T'=some e->slT g T=some e):Lib P good G T' IT:=by
 obtain⟨nat,tab,s,ht,hit⟩:=L;exact⟨nat,tab,s,fun g e hg=>ht g e (h g e hg),hit⟩
theorem Lib.cut {g:FuncId}{a b:Ent}(L:Lib P good G ((g,a)::(g,b)::T) IT):Lib P good G ((g,a)::T) IT:=L.sub fun g' e h=>by
 have h:cond (Nat.beq g' g) (some a) (slT g' T)=some e:=h;show cond (Nat.beq g' g) (some a) (cond (Nat.beq g' g) (some b) (slT g' T))=some e
 cases hb:Nat.beq g' g with
 | true=>rw[hb] at h;exact h
 | false=>rw[hb] at h;exact h
theorem Lib.addN (L:Lib P good G T IT)(g:FuncId)(az rs:List Ty)(hent:enters P g=true):Lib P good G ((g,⟨az,rs,fun _=>none⟩)::T) IT :=
 L.zHO g az rs (fun _=>none) hent fun _ x y args H h=>by cases h
end
end Go.Sv
