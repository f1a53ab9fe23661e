/- Functions told in lists: by their own code as it stands, or in other words. Conditions: none. -/
import Derived.Test.YtihofndbgpmloaaGreatDoorLW
set_option linter.all false
namespace Go.Sv
open Go.Idl
noncomputable section
variable[Gc][Hnd][Frs]
variable{P:Program}{good:FuncId->Bool}{G:Nat->Bool}{T:zM}{IT:List (FuncId×yq)}
def gP(P:Program)(g:FuncId):=(P.funcs[g]?).getD {name:= "",origin:= "",params:=#[],resultTypes:=#[],nfree:=0,ntmps:=0,results:=#[],body:=none,norace:=false,tmpNames:=#[]}
def tyO(P)(l:List TypeId):=l.map λt=>(kA P 8 t).getD .unit
def XG[Gc][Hnd][Frs](n P G T IT a d c e b x):=letI:Yl:=⟨0⟩;fnS P G T IT (ciN P G T IT a n) d c e b x
def qDZ(P:Program)(G:Nat->Bool)(T:zM)(IT:List (FuncId×yq))(a:Ans)(b:An)(n:Nat)(g:FuncId):Ent:=⟨tyO P (gP P g).params.toList,tyO P (gP P g).resultTypes.toList,XG n P G T IT a b _ _ (gP P g)⟩
theorem qAo{g}(h:(P.funcs[g]?).isSome=true):P.funcs[g]?=some (gP P g):=by obtain⟨b,a⟩:=qKG.1 h;unfold gP;rw[a];rfl
theorem Lib.add0[uS P G][xZ P G](L:Lib P good G T IT)(c j n g e)(i:(enters P g&&((P.funcs[g]?).isSome&&oJ e.as e.rs (gP P g)))=true)(m:∀x,XG n P G T IT c j e.as e.rs (gP P g) x=e.F x):Lib P good G ((g,e)::T) IT:=by obtain⟨o,p,s,k,b⟩:=L;rw[qJa,qJa]at i;letI:Yl:=⟨0⟩;have a:=MR (an:=j) (d:=e.as) (b:=e.rs) s k b (rk s k b c n) (qAo i.2.1) i.2.2;rw[show fnS P G T IT (ciN P G T IT c n) j e.as e.rs (gP P g)=e.F from funext m]at a;refine⟨_,_,s.add (enL e.as) e.F (yN e.rs) i.1 (HE e.rs) a,?_,b⟩;intro _ h f d x;have d:cond (Nat.beq h g) (some e) (slT h T)=some f:=d;unfold cM;cases l:Nat.beq h g with|true=>rw[l]at d;cases d;exact YW (a:=enL e.as) x|false=>rw[l]at d;exact k h f d x
structure FE where
 g:FuncId
 ans:Ans
 an:An
 e:Option Ent
 n:Nat:=3
def FE.ent(P G T IT)(f:FE):=match f.e with|some e=>e|none=>qDZ P G T IT f.ans f.an f.n f.g
def vc(P:Program)(G:Nat->Bool)(IT:List (FuncId×yq)):List FE->zM->zM|[],T=>T|f::l,T=>vc P G IT l ((f.g,f.ent P G T IT)::T)
def okE(P:Program)(G:Nat->Bool)(IT:List (FuncId×yq)):List FE->zM->Prop|[],_=>True|f::l,T=>(enters P f.g&&((P.funcs[f.g]?).isSome&&oJ (f.ent P G T IT).as (f.ent P G T IT).rs (gP P f.g)))=true/\XG f.n P G T IT f.ans f.an (f.ent P G T IT).as (f.ent P G T IT).rs (gP P f.g)=(f.ent P G T IT).F/\okE P G IT l ((f.g,f.ent P G T IT)::T)
theorem Lib.wT[uS P G][xZ P G]:∀(l){T},Lib P good G T IT->okE P G IT l T->Lib P good G (vc P G IT l T) IT|[],_,L,_=>L|f::l,T,L,h=>Lib.wT l (L.add0 f.ans f.an f.n f.g (f.ent P G T IT) h.1 λx=>congrFun h.2.1 x) h.2.2
end
end Go.Sv
