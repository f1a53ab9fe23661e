/- Functions told in lists: by their own code as it stands, or in other words. Conditions: none. -/
import Derived.Test.YtbegpnhghineiaaGreatDoorLW
set_option linter.all false
namespace Go.Sv
open Go.Idl
noncomputable section
variable[Gc][Hnd][Frs]
variable{P:Program}{good:FuncId->Bool}{G:Nat->Bool}{T:qo}{IT:List (FuncId×yV)}
def gB(P:Program)(g:FuncId):=(P.funcs[g]?).getD {name:= "",origin:= "",params:=#[],resultTypes:=#[],nfree:=0,ntmps:=0,results:=#[],body:=none,norace:=false,tmpNames:=#[]}
def tyO(P)(l:List TypeId):=l.map λt=>(xk P 8 t).getD .unit
def vN[Gc][Hnd][Frs](n P G T IT a d c e b x):=letI:Yl:=⟨0⟩;fnS P G T IT (ciN P G T IT a n) d c e b x
def iw(P:Program)(G:Nat->Bool)(T:qo)(IT:List (FuncId×yV))(a:Ans)(b:An)(n:Nat)(g:FuncId):Ent:=⟨tyO P (gB P g).params.toList,tyO P (gB P g).resultTypes.toList,vN n P G T IT a b _ _ (gB P g)⟩
theorem LX{g}(h:(P.funcs[g]?).isSome=true):P.funcs[g]?=some (gB P g):=by obtain⟨b,a⟩:=qFZ.1 h;unfold gB;rw[a];rfl
theorem Lib.add0[xa P G][yw P G](L:Lib P good G T IT)(c j n g e)(i:(enters P g&&((P.funcs[g]?).isSome&&mn e.as e.rs (gB P g)))=true)(m:∀x,vN n P G T IT c j e.as e.rs (gB P g) x=e.F x):Lib P good G ((g,e)::T) IT:=by obtain⟨o,p,s,k,b⟩:=L;rw[qEv,qEv]at i;letI:Yl:=⟨0⟩;have a:=Cx (an:=j) (d:=e.as) (b:=e.rs) s k b (mU s k b c n) (LX i.2.1) i.2.2;rw[show fnS P G T IT (ciN P G T IT c n) j e.as e.rs (gB P g)=e.F from funext m]at a;refine⟨_,_,s.add (enL e.as) e.F (z_ e.rs) i.1 (WY e.rs) a,?_,b⟩;intro _ h f d x;have d:cond (Nat.beq h g) (some e) (slT h T)=some f:=d;unfold hP;cases l:Nat.beq h g with|true=>rw[l]at d;cases d;exact pE (a:=enL e.as) x|false=>rw[l]at d;exact k h f d x
structure FE where
 g:FuncId
 ans:Ans
 an:An
 e:Option Ent
 n:Nat:=3
def FE.ent(P G T IT)(f:FE):=match f.e with|some e=>e|none=>iw P G T IT f.ans f.an f.n f.g
def xZ(P:Program)(G:Nat->Bool)(IT:List (FuncId×yV)):List FE->qo->qo|[],T=>T|f::l,T=>xZ P G IT l ((f.g,f.ent P G T IT)::T)
def okE(P:Program)(G:Nat->Bool)(IT:List (FuncId×yV)):List FE->qo->Prop|[],_=>True|f::l,T=>(enters P f.g&&((P.funcs[f.g]?).isSome&&mn (f.ent P G T IT).as (f.ent P G T IT).rs (gB P f.g)))=true/\vN f.n P G T IT f.ans f.an (f.ent P G T IT).as (f.ent P G T IT).rs (gB P f.g)=(f.ent P G T IT).F/\okE P G IT l ((f.g,f.ent P G T IT)::T)
theorem Lib.xr[xa P G][yw P G]:∀(l){T},Lib P good G T IT->okE P G IT l T->Lib P good G (xZ P G IT l T) IT|[],_,L,_=>L|f::l,T,L,h=>Lib.xr l (L.add0 f.ans f.an f.n f.g (f.ent P G T IT) h.1 λx=>congrFun h.2.1 x) h.2.2
end
end Go.Sv
