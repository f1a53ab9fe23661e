/- Functions told in lists: by their own code as it stands, or in other words. Conditions: none. -/
import Derived.Test.YtmojbdabaigobaaGreatDoorLW
set_option linter.all false
namespace Go.Sv
open Go.Idl
noncomputable section
variable [Gc][Hnd][Frs]
variable {P:Program}{good:FuncId->Bool}{G:Nat->Bool}{T:yE}{IT:List (FuncId×zFI)}
def qYX (P:Program)(g:FuncId):Func:=(P.funcs[g]?).getD { name := "",origin := "",params:=#[],resultTypes:=#[],nfree:=0,ntmps:=0,results:=#[],body:=none,norace:=false,tmpNames:=#[] }
def tyO (P:Program)(l:List TypeId):List Ty:=l.map fun t=>(qD3 P 8 t).getD .unit
def qLE [Gc][Hnd][Frs](n:Nat)(P:Program)(G:Nat->Bool)(T:yE)(IT:List (FuncId×zFI))(ans:Ans)(an:An)(az rs:List Ty)(fn:Func)(x:TyL az):Option (TyL rs):=letI:Yl:=⟨0⟩;fnS P G T IT (ciN P G T IT ans n) an az rs fn x
def zEQ (P:Program)(G:Nat->Bool)(T:yE)(IT:List (FuncId×zFI))(ans:Ans)(an:An)(n:Nat)(g:FuncId):Ent :=
 ⟨tyO P (qYX P g).params.toList,tyO P (qYX P g).resultTypes.toList,qLE n P G T IT ans an _ _ (qYX P g)⟩
theorem q7T {g:FuncId}(h:(P.funcs[g]?).isSome=true):P.funcs[g]?=some (qYX P g):=by
 obtain⟨fn,hfn⟩:=zPN.1 h;unfold qYX;rw[hfn];rfl
theorem Lib.add0 [zFQ P G][zFJ P G](L:Lib P good G T IT)(ans:Ans)(an:An)(n:Nat)(g:FuncId)(e:Ent)(hc:(enters P g&&((P.funcs[g]?).isSome&&qSW e.as e.rs (qYX P g)))=true)
 (hF:∀ x,qLE n P G T IT ans an e.as e.rs (qYX P g) x=e.F x):Lib P good G ((g,e)::T) IT:=by
 obtain⟨nat,tab,s,ht,hit⟩:=L;rw[zOG,zOG] at hc
 letI:Yl:=⟨0⟩
 have zIQ:=zAQ (an:=an) (as:=e.as) (rs:=e.rs) s ht hit (qD8 s ht hit ans n) (q7T hc.2.1) hc.2.2;rw[show fnS P G T IT (ciN P G T IT ans n) an e.as e.rs (qYX P g)=e.F from funext hF] at zIQ;refine⟨_,_,s.add (enL e.as) e.F (jD e.rs) hc.1 (qM3 e.rs) zIQ,?_,hit⟩;intro _ g' ent hg x;have hg:cond (Nat.beq g' g) (some e) (slT g' T)=some ent:=hg;unfold q3M
 cases hb:Nat.beq g' g with
 | true =>
   rw[hb] at hg;cases hg;exact qN7 (a:=enL e.as) x
 | false =>
   rw[hb] at hg;exact ht g' ent hg x
structure FE where
 g:FuncId
 ans:Ans
 an:An
 e:Option Ent
 n:Nat:=3
def FE.ent (P:Program)(G:Nat->Bool)(T:yE)(IT:List (FuncId×zFI))(f:FE):Ent:=match f.e with
 | some e=>e
 | none=>zEQ P G T IT f.ans f.an f.n f.g
def dN (P:Program)(G:Nat->Bool)(IT:List (FuncId×zFI)):List FE->yE->yE
 | [],T=>T
 | f::l,T=>dN P G IT l ((f.g,f.ent P G T IT)::T)
def okE (P:Program)(G:Nat->Bool)(IT:List (FuncId×zFI)):List FE->yE->Prop
 | [],_=>True
 | f::l,T=>(enters P f.g&&((P.funcs[f.g]?).isSome&&qSW (f.ent P G T IT).as (f.ent P G T IT).rs (qYX P f.g)))=true∧qLE f.n P G T IT f.ans f.an (f.ent P G T IT).as (f.ent P G T IT).rs (qYX P f.g)=(f.ent P G T IT).F∧okE P G IT l ((f.g,f.ent P G T IT)::T)
theorem Lib.zFN [zFQ P G][zFJ P G]:∀ (l:List FE) {T:yE},Lib P good G T IT->okE P G IT l T->Lib P good G (dN P G IT l T) IT
 | [],_,L,_=>L
 | f::l,T,L,h=>Lib.zFN l (L.add0 f.ans f.an f.n f.g (f.ent P G T IT) h.1 fun x=>congrFun h.2.1 x) h.2.2
end
end Go.Sv
