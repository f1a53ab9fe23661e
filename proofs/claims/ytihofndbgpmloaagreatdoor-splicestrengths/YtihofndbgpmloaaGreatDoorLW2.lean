/- Functions told in lists: by their own code as it stands, or in other words. Conditions: none. -/
import Derived.Test.YtihofndbgpmloaaGreatDoorLW
set_option linter.all false
namespace Go.Sv
open Go.Idl
noncomputable section
variable[Gc][Hnd][Frs]
variable{P:Program}{good:FuncId->Bool}{G:Nat->Bool}{T:zL}{IT:List (FuncId×ye)}
def ur(P:Program)(g:FuncId):=(P.funcs[g]?).getD {name:= "",origin:= "",params:=#[],resultTypes:=#[],nfree:=0,ntmps:=0,results:=#[],body:=none,norace:=false,tmpNames:=#[]}
def tyO(P)(l:List TypeId):=l.map λt=>(xg P 8 t).getD .unit
def Zj[Gc][Hnd][Frs](n P G T IT a d c e b x):=letI:Yl:=⟨0⟩;fnS P G T IT (ciN P G T IT a n) d c e b x
def qAY(P:Program)(G:Nat->Bool)(T:zL)(IT:List (FuncId×ye))(a:Ans)(b:An)(n:Nat)(g:FuncId):Ent:=⟨tyO P (ur P g).params.toList,tyO P (ur P g).resultTypes.toList,Zj n P G T IT a b _ _ (ur P g)⟩
theorem Le{g}(h:(P.funcs[g]?).isSome=true):P.funcs[g]?=some (ur P g):=by obtain⟨b,a⟩:=qHN.1 h;unfold ur;rw[a];rfl
theorem Lib.add0[wm P G][xR P G](L:Lib P good G T IT)(c j n g e)(i:(enters P g&&((P.funcs[g]?).isSome&&nG e.as e.rs (ur P g)))=true)(m:∀x,Zj n P G T IT c j e.as e.rs (ur P g) x=e.F x):Lib P good G ((g,e)::T) IT:=by obtain⟨o,p,s,k,b⟩:=L;rw[qGk,qGk]at i;letI:Yl:=⟨0⟩;have a:=DU (an:=j) (d:=e.as) (b:=e.rs) s k b (pd s k b c n) (Le i.2.1) i.2.2;rw[show fnS P G T IT (ciN P G T IT c n) j e.as e.rs (ur P g)=e.F from funext m]at a;refine⟨_,_,s.add (enL e.as) e.F (yE e.rs) i.1 (Wa e.rs) a,?_,b⟩;intro _ h f d x;have d:cond (Nat.beq h g) (some e) (slT h T)=some f:=d;unfold bQ;cases l:Nat.beq h g with|true=>rw[l]at d;cases d;exact Ql (a:=enL e.as) x|false=>rw[l]at d;exact k h f d x
structure FE where
 g:FuncId
 ans:Ans
 an:An
 e:Option Ent
 n:Nat:=3
def FE.ent(P G T IT)(f:FE):=match f.e with|some e=>e|none=>qAY P G T IT f.ans f.an f.n f.g
def w7(P:Program)(G:Nat->Bool)(IT:List (FuncId×ye)):List FE->zL->zL|[],T=>T|f::l,T=>w7 P G IT l ((f.g,f.ent P G T IT)::T)
def okE(P:Program)(G:Nat->Bool)(IT:List (FuncId×ye)):List FE->zL->Prop|[],_=>True|f::l,T=>(enters P f.g&&((P.funcs[f.g]?).isSome&&nG (f.ent P G T IT).as (f.ent P G T IT).rs (ur P f.g)))=true/\Zj f.n P G T IT f.ans f.an (f.ent P G T IT).as (f.ent P G T IT).rs (ur P f.g)=(f.ent P G T IT).F/\okE P G IT l ((f.g,f.ent P G T IT)::T)
theorem Lib.h_[wm P G][xR P G]:∀(l){T},Lib P good G T IT->okE P G IT l T->Lib P good G (w7 P G IT l T) IT|[],_,L,_=>L|f::l,T,L,h=>Lib.h_ l (L.add0 f.ans f.an f.n f.g (f.ent P G T IT) h.1 λx=>congrFun h.2.1 x) h.2.2
end
end Go.Sv
