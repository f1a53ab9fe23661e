/- A contract at a few arguments. Conditions: none. -/
import Derived.Test.YtfcipnpcakejoaaGreatDoorLW2
set_option linter.all false
namespace Go.Sv
open Go.Idl
def rn{α:Type}(f:α->α->Bool):List α->List α->Bool|[],[]=>true|x::l,y::m=>f x y&&rn f l m|_,_=>false
theorem J6{α f}(a:∀x y,f x y=true->x=y):∀{l m:List α},rn f l m=true->l=m|[],[],_=>rfl|x::l,y::m,h=>by simp only[rn,qG3]at h;rw[a x y h.1,J6 a h.2]|[],_::_,h=>by cases h|_::_,[],h=>by cases h
def eqv:(t:Ty)->t.sem->t.sem->Bool|.int _=>λa b=>decide ((a:Int)=b)|.str=>λa b=>rn (λx y=>decide (x=y)) (a:ByteArray).data.toList (b:ByteArray).data.toList|.list _ u=>λa b=>rn (eqv u) a b|.pair u v=>λa b=>eqv u a.1 b.1&&eqv v a.2 b.2|_=>λ_ _=>false
theorem pz:∀{t a b},eqv t a b=true->a=b|.int _,a,b,h=>of_decide_eq_true h|.str,a,b,h=>by have h:=J6 (f:=λx y=>decide (x=y)) (λ_ _ h=>of_decide_eq_true h) h;obtain⟨⟨l⟩⟩:=a;obtain⟨⟨m⟩⟩:=b;have h:l=m:=h;rw[h]|.list _ u,a,b,h=>J6 (λ_ _ h=>pz h) h|.pair u v,a,b,h=>by have h:(eqv u a.1 b.1&&eqv v a.2 b.2)=true:=h;rw[qG3]at h;exact Prod.ext (pz h.1) (pz h.2)|.bool,_,_,h=>by cases h|.unit,_,_,h=>by cases h|.raw,_,_,h=>by cases h|.ol _ _,_,_,h=>by cases h|.nif,_,_,h=>by cases h|.fnv _,_,_,h=>by cases h
def rm:(c:List Ty)->TyL c->TyL c->Bool|[]=>λ_ _=>true|[t]=>λa b=>eqv t a b|t::u::c=>λa b=>eqv t a.1 b.1&&rm (u::c) a.2 b.2
theorem Cw:∀{c a b},rm c a b=true->a=b|[],_,_,_=>rfl|[t],a,b,h=>pz h|t::u::c,a,b,h=>by have h:(eqv t a.1 b.1&&rm (u::c) a.2 b.2)=true:=h;rw[qG3]at h;exact Prod.ext (pz h.1) (Cw h.2)
def atE(A:List Ty){R:Type}:List (TyL A×R)->TyL A->Option R|[],_=>none|p::l,x=>cond (rm A x p.1) (some p.2) (atE A l x)
theorem nP{A R}{F:TyL A->Option R}:∀{l},(∀p∈l,F p.1=some p.2)->∀x y,atE A l x=some y->F x=some y|[],_,_,_,h=>by cases h|p::l,b,x,y,h=>by unfold atE at h;cases a:rm A x p.1 with|true=>rw[a]at h;cases h;rw[Cw a];exact b p qGd|false=>rw[a]at h;exact nP (λq c=>b q (qGb _ c)) x y h
section
variable[Gc]
variable{P:Program}{good:FuncId->Bool}{G:Nat->Bool}{T:qs}{IT:List (FuncId×yX)}
end
end Go.Sv
