/- Functions told in lists: by their own code as it stands, or in other words. Conditions: none. -/
import Derived.Test.YtihofndbgpmloaaGreatDoorLW
set_option linter.all false
namespace Go.Sv
open Go.Idl
noncomputable section
variable[Gc][Hnd][Frs]
variable{P:Program}{good:FuncId->Bool}{G:Nat->Bool}{T:zI}{IT:List (FuncId×yq)}
def gW(P:Program)(g:FuncId):=(P.funcs[g]?).getD {name:= "",origin:= "",params:=#[],resultTypes:=#[],nfree:=0,ntmps:=0,results:=#[],body:=none,norace:=false,tmpNames:=#[]}
def tyO(P)(l:List TypeId):=l.map λt=>(kB P 8 t).getD .unit
def Yg[Gc][Hnd][Frs](n P G T IT a d c e b x):=letI:Yl:=⟨0⟩;fnS P G T IT (ciN P G T IT a n) d c e b x
def qC6(P:Program)(G:Nat->Bool)(T:zI)(IT:List (FuncId×yq))(a:Ans)(b:An)(n:Nat)(g:FuncId):Ent:=⟨tyO P (gW P g).params.toList,tyO P (gW P g).resultTypes.toList,Yg n P G T IT a b _ _ (gW P g)⟩
theorem qAK{g}(h:(P.funcs[g]?).isSome=true):P.funcs[g]?=some (gW P g):=by obtain⟨b,a⟩:=qJc.1 h;unfold gW;rw[a];rfl
theorem Lib.add0[uX P G][xZ P G](L:Lib P good G T IT)(c j n g e)(i:(enters P g&&((P.funcs[g]?).isSome&&oJ e.as e.rs (gW P g)))=true)(m:∀x,Yg n P G T IT c j e.as e.rs (gW P g) x=e.F x):Lib P good G ((g,e)::T) IT:=by obtain⟨o,p,s,k,b⟩:=L;rw[qJI,qJI]at i;letI:Yl:=⟨0⟩;have a:=Ee (an:=j) (d:=e.as) (b:=e.rs) s k b (r7 s k b c n) (qAK i.2.1) i.2.2;rw[show fnS P G T IT (ciN P G T IT c n) j e.as e.rs (gW P g)=e.F from funext m]at a;refine⟨_,_,s.add (enL e.as) e.F (yK e.rs) i.1 (Us e.rs) a,?_,b⟩;intro _ h f d x;have d:cond (Nat.beq h g) (some e) (slT h T)=some f:=d;unfold ca;cases l:Nat.beq h g with|true=>rw[l]at d;cases d;exact YH (a:=enL e.as) x|false=>rw[l]at d;exact k h f d x
structure FE where
 g:FuncId
 ans:Ans
 an:An
 e:Option Ent
 n:Nat:=3
def FE.ent(P G T IT)(f:FE):=match f.e with|some e=>e|none=>qC6 P G T IT f.ans f.an f.n f.g
def jy(P:Program)(G:Nat->Bool)(IT:List (FuncId×yq)):List FE->zI->zI|[],T=>T|f::l,T=>jy P G IT l ((f.g,f.ent P G T IT)::T)
def okE(P:Program)(G:Nat->Bool)(IT:List (FuncId×yq)):List FE->zI->Prop|[],_=>True|f::l,T=>(enters P f.g&&((P.funcs[f.g]?).isSome&&oJ (f.ent P G T IT).as (f.ent P G T IT).rs (gW P f.g)))=true/\Yg f.n P G T IT f.ans f.an (f.ent P G T IT).as (f.ent P G T IT).rs (gW P f.g)=(f.ent P G T IT).F/\okE P G IT l ((f.g,f.ent P G T IT)::T)
theorem Lib.vh[uX P G][xZ P G]:∀(l){T},Lib P good G T IT->okE P G IT l T->Lib P good G (jy P G IT l T) IT|[],_,L,_=>L|f::l,T,L,h=>Lib.vh l (L.add0 f.ans f.an f.n f.g (f.ent P G T IT) h.1 λx=>congrFun h.2.1 x) h.2.2
end
end Go.Sv
