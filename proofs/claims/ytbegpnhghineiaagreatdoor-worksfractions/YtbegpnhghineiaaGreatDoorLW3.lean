/- A contract at a few arguments. Conditions: none. -/
import Derived.Test.YtbegpnhghineiaaGreatDoorLW2
set_option linter.all false
namespace Go.Sv
open Go.Idl
def pz{α:Type}(f:α->α->Bool):List α->List α->Bool|[],[]=>true|x::l,y::m=>f x y&&pz f l m|_,_=>false
theorem Ku{α f}(a:∀x y,f x y=true->x=y):∀{l m:List α},pz f l m=true->l=m|[],[],_=>rfl|x::l,y::m,h=>by simp only[pz,qEv]at h;rw[a x y h.1,Ku a h.2]|[],_::_,h=>by cases h|_::_,[],h=>by cases h
def eqv:(t:Ty)->t.sem->t.sem->Bool|.int _=>λa b=>decide ((a:Int)=b)|.str=>λa b=>pz (λx y=>decide (x=y)) (a:ByteArray).data.toList (b:ByteArray).data.toList|.list _ u=>λa b=>pz (eqv u) a b|.pair u v=>λa b=>eqv u a.1 b.1&&eqv v a.2 b.2|_=>λ_ _=>false
theorem pS:∀{t a b},eqv t a b=true->a=b|.int _,a,b,h=>of_decide_eq_true h|.str,a,b,h=>by have h:=Ku (f:=λx y=>decide (x=y)) (λ_ _ h=>of_decide_eq_true h) h;obtain⟨⟨l⟩⟩:=a;obtain⟨⟨m⟩⟩:=b;have h:l=m:=h;rw[h]|.list _ u,a,b,h=>Ku (λ_ _ h=>pS h) h|.pair u v,a,b,h=>by have h:(eqv u a.1 b.1&&eqv v a.2 b.2)=true:=h;rw[qEv]at h;exact Prod.ext (pS h.1) (pS h.2)|.bool,_,_,h=>by cases h|.unit,_,_,h=>by cases h|.raw,_,_,h=>by cases h|.ol _ _,_,_,h=>by cases h|.nif,_,_,h=>by cases h|.fnv _,_,_,h=>by cases h
def rM:(c:List Ty)->TyL c->TyL c->Bool|[]=>λ_ _=>true|[t]=>λa b=>eqv t a b|t::u::c=>λa b=>eqv t a.1 b.1&&rM (u::c) a.2 b.2
theorem BD:∀{c a b},rM c a b=true->a=b|[],_,_,_=>rfl|[t],a,b,h=>pS h|t::u::c,a,b,h=>by have h:(eqv t a.1 b.1&&rM (u::c) a.2 b.2)=true:=h;rw[qEv]at h;exact Prod.ext (pS h.1) (BD h.2)
def atE(A:List Ty){R:Type}:List (TyL A×R)->TyL A->Option R|[],_=>none|p::l,x=>cond (rM A x p.1) (some p.2) (atE A l x)
theorem mz{A R}{F:TyL A->Option R}:∀{l},(∀p∈l,F p.1=some p.2)->∀x y,atE A l x=some y->F x=some y|[],_,_,_,h=>by cases h|p::l,b,x,y,h=>by unfold atE at h;cases a:rM A x p.1 with|true=>rw[a]at h;cases h;rw[BD a];exact b p qFE|false=>rw[a]at h;exact mz (λq c=>b q (qFC _ c)) x y h
section
variable[Gc]
variable{P:Program}{good:FuncId->Bool}{G:Nat->Bool}{T:qo}{IT:List (FuncId×yV)}
end
end Go.Sv
