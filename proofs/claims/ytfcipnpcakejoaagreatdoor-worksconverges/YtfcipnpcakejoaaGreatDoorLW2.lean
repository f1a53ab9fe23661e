/- Functions told in lists: by their own code as it stands, or in other words. Conditions: none. -/
import Derived.Test.YtfcipnpcakejoaaGreatDoorLW
set_option linter.all false
namespace Go.Sv
open Go.Idl
noncomputable section
variable[Gc][Hnd][Frs]
variable{P:Program}{good:FuncId->Bool}{G:Nat->Bool}{T:qs}{IT:List (FuncId×yX)}
def gL(P:Program)(g:FuncId):=(P.funcs[g]?).getD {name:= "",origin:= "",params:=#[],resultTypes:=#[],nfree:=0,ntmps:=0,results:=#[],body:=none,norace:=false,tmpNames:=#[]}
def tyO(P)(l:List TypeId):=l.map λt=>(xn P 8 t).getD .unit
def vY[Gc][Hnd][Frs](n P G T IT a d c e b x):=letI:Yl:=⟨0⟩;fnS P G T IT (ciN P G T IT a n) d c e b x
def qAq(P:Program)(G:Nat->Bool)(T:qs)(IT:List (FuncId×yX))(a:Ans)(b:An)(n:Nat)(g:FuncId):Ent:=⟨tyO P (gL P g).params.toList,tyO P (gL P g).resultTypes.toList,vY n P G T IT a b _ _ (gL P g)⟩
theorem Ls{g}(h:(P.funcs[g]?).isSome=true):P.funcs[g]?=some (gL P g):=by obtain⟨b,a⟩:=qGx.1 h;unfold gL;rw[a];rfl
theorem Lib.add0[xh P G][xC P G](L:Lib P good G T IT)(c j n g e)(i:(enters P g&&((P.funcs[g]?).isSome&&nW e.as e.rs (gL P g)))=true)(m:∀x,vY n P G T IT c j e.as e.rs (gL P g) x=e.F x):Lib P good G ((g,e)::T) IT:=by obtain⟨o,p,s,k,b⟩:=L;rw[qG3,qG3]at i;letI:Yl:=⟨0⟩;have a:=EC (an:=j) (d:=e.as) (b:=e.rs) s k b (nM s k b c n) (Ls i.2.1) i.2.2;rw[show fnS P G T IT (ciN P G T IT c n) j e.as e.rs (gL P g)=e.F from funext m]at a;refine⟨_,_,s.add (enL e.as) e.F (yC e.rs) i.1 (UI e.rs) a,?_,b⟩;intro _ h f d x;have d:cond (Nat.beq h g) (some e) (slT h T)=some f:=d;unfold gR;cases l:Nat.beq h g with|true=>rw[l]at d;cases d;exact rA (a:=enL e.as) x|false=>rw[l]at d;exact k h f d x
structure FE where
 g:FuncId
 ans:Ans
 an:An
 e:Option Ent
 n:Nat:=3
def FE.ent(P G T IT)(f:FE):=match f.e with|some e=>e|none=>qAq P G T IT f.ans f.an f.n f.g
def xe(P:Program)(G:Nat->Bool)(IT:List (FuncId×yX)):List FE->qs->qs|[],T=>T|f::l,T=>xe P G IT l ((f.g,f.ent P G T IT)::T)
def okE(P:Program)(G:Nat->Bool)(IT:List (FuncId×yX)):List FE->qs->Prop|[],_=>True|f::l,T=>(enters P f.g&&((P.funcs[f.g]?).isSome&&nW (f.ent P G T IT).as (f.ent P G T IT).rs (gL P f.g)))=true/\vY f.n P G T IT f.ans f.an (f.ent P G T IT).as (f.ent P G T IT).rs (gL P f.g)=(f.ent P G T IT).F/\okE P G IT l ((f.g,f.ent P G T IT)::T)
theorem Lib.xx[xh P G][xC P G]:∀(l){T},Lib P good G T IT->okE P G IT l T->Lib P good G (xe P G IT l T) IT|[],_,L,_=>L|f::l,T,L,h=>Lib.xx l (L.add0 f.ans f.an f.n f.g (f.ent P G T IT) h.1 λx=>congrFun h.2.1 x) h.2.2
end
end Go.Sv
