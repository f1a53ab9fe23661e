/- Functions told in lists: by their own code as it stands, or in other words. Conditions: none. -/
import Derived.Test.YtihofndbgpmloaaGreatDoorLW
set_option linter.all false
namespace Go.Sv
open Go.Idl
noncomputable section
variable[Gc][Hnd][Frs]
variable{P:Program}{good:FuncId->Bool}{G:Nat->Bool}{T:zL}{IT:List (FuncId×yd)}
def uy(P:Program)(g:FuncId):=(P.funcs[g]?).getD {name:= "",origin:= "",params:=#[],resultTypes:=#[],nfree:=0,ntmps:=0,results:=#[],body:=none,norace:=false,tmpNames:=#[]}
def tyO(P)(l:List TypeId):=l.map λt=>(xc P 8 t).getD .unit
def Zq[Gc][Hnd][Frs](n P G T IT a d c e b x):=letI:Yl:=⟨0⟩;fnS P G T IT (ciN P G T IT a n) d c e b x
def qAh(P:Program)(G:Nat->Bool)(T:zL)(IT:List (FuncId×yd))(a:Ans)(b:An)(n:Nat)(g:FuncId):Ent:=⟨tyO P (uy P g).params.toList,tyO P (uy P g).resultTypes.toList,Zq n P G T IT a b _ _ (uy P g)⟩
theorem LS{g}(h:(P.funcs[g]?).isSome=true):P.funcs[g]?=some (uy P g):=by obtain⟨b,a⟩:=qHS.1 h;unfold uy;rw[a];rfl
theorem Lib.add0[wu P G][xR P G](L:Lib P good G T IT)(c j n g e)(i:(enters P g&&((P.funcs[g]?).isSome&&mz e.as e.rs (uy P g)))=true)(m:∀x,Zq n P G T IT c j e.as e.rs (uy P g) x=e.F x):Lib P good G ((g,e)::T) IT:=by obtain⟨o,p,s,k,b⟩:=L;rw[qGp,qGp]at i;letI:Yl:=⟨0⟩;have a:=Dc (an:=j) (d:=e.as) (b:=e.rs) s k b (pS s k b c n) (LS i.2.1) i.2.2;rw[show fnS P G T IT (ciN P G T IT c n) j e.as e.rs (uy P g)=e.F from funext m]at a;refine⟨_,_,s.add (enL e.as) e.F (yE e.rs) i.1 (W8 e.rs) a,?_,b⟩;intro _ h f d x;have d:cond (Nat.beq h g) (some e) (slT h T)=some f:=d;unfold bh;cases l:Nat.beq h g with|true=>rw[l]at d;cases d;exact QZ (a:=enL e.as) x|false=>rw[l]at d;exact k h f d x
structure FE where
 g:FuncId
 ans:Ans
 an:An
 e:Option Ent
 n:Nat:=3
def FE.ent(P G T IT)(f:FE):=match f.e with|some e=>e|none=>qAh P G T IT f.ans f.an f.n f.g
def wa(P:Program)(G:Nat->Bool)(IT:List (FuncId×yd)):List FE->zL->zL|[],T=>T|f::l,T=>wa P G IT l ((f.g,f.ent P G T IT)::T)
def okE(P:Program)(G:Nat->Bool)(IT:List (FuncId×yd)):List FE->zL->Prop|[],_=>True|f::l,T=>(enters P f.g&&((P.funcs[f.g]?).isSome&&mz (f.ent P G T IT).as (f.ent P G T IT).rs (uy P f.g)))=true/\Zq f.n P G T IT f.ans f.an (f.ent P G T IT).as (f.ent P G T IT).rs (uy P f.g)=(f.ent P G T IT).F/\okE P G IT l ((f.g,f.ent P G T IT)::T)
theorem Lib.gA[wu P G][xR P G]:∀(l){T},Lib P good G T IT->okE P G IT l T->Lib P good G (wa P G IT l T) IT|[],_,L,_=>L|f::l,T,L,h=>Lib.gA l (L.add0 f.ans f.an f.n f.g (f.ent P G T IT) h.1 λx=>congrFun h.2.1 x) h.2.2
end
end Go.Sv
