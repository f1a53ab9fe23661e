/- Functions told in lists: by their own code as it stands, or in other words. Conditions: none. -/
import Derived.Test.YtkmfigmiehpcpaaGreatDoorLW
set_option linter.all false
namespace Go.Sv
open Go.Idl
noncomputable section
variable [Gc][Hnd][Frs]
variable {P:Program}{good:FuncId->Bool}{G:Nat->Bool}{T:z8}{IT:List (FuncId×zEY)}
def qYJ (P:Program)(g:FuncId):Func:=(P.funcs[g]?).getD { name := "",origin := "",params:=#[],resultTypes:=#[],nfree:=0,ntmps:=0,results:=#[],body:=none,norace:=false,tmpNames:=#[] }
def tyO (P:Program)(l:List TypeId):List Ty:=l.map fun t=>(qDM P 8 t).getD .unit
def qK6 [Gc][Hnd][Frs](n:Nat)(P:Program)(G:Nat->Bool)(T:z8)(IT:List (FuncId×zEY))(ans:Ans)(an:An)(az rs:List Ty)(fn:Func)(x:TyL az):Option (TyL rs):=letI:Yl:=⟨0⟩;fnS P G T IT (ciN P G T IT ans n) an az rs fn x
def zD9 (P:Program)(G:Nat->Bool)(T:z8)(IT:List (FuncId×zEY))(ans:Ans)(an:An)(n:Nat)(g:FuncId):Ent :=
 ⟨tyO P (qYJ P g).params.toList,tyO P (qYJ P g).resultTypes.toList,qK6 n P G T IT ans an _ _ (qYJ P g)⟩
theorem q5F {g:FuncId}(h:(P.funcs[g]?).isSome=true):P.funcs[g]?=some (qYJ P g):=by
 obtain⟨fn,hfn⟩:=zOV.1 h;unfold qYJ;rw[hfn];rfl
theorem Lib.add0 [zE5 P G][zEZ P G](L:Lib P good G T IT)(ans:Ans)(an:An)(n:Nat)(g:FuncId)(e:Ent)(hc:(enters P g&&((P.funcs[g]?).isSome&&qRF e.as e.rs (qYJ P g)))=true)
 (hF:∀ x,qK6 n P G T IT ans an e.as e.rs (qYJ P g) x=e.F x):Lib P good G ((g,e)::T) IT:=by
 obtain⟨nat,tab,s,ht,hit⟩:=L;rw[zNT,zNT] at hc
 letI:Yl:=⟨0⟩
 have zH5:=q85 (an:=an) (as:=e.as) (rs:=e.rs) s ht hit (qDJ s ht hit ans n) (q5F hc.2.1) hc.2.2;rw[show fnS P G T IT (ciN P G T IT ans n) an e.as e.rs (qYJ P g)=e.F from funext hF] at zH5;refine⟨_,_,s.add (enL e.as) e.F (jF e.rs) hc.1 (qMO e.rs) zH5,?_,hit⟩;intro _ g' ent hg x;have hg:cond (Nat.beq g' g) (some e) (slT g' T)=some ent:=hg;unfold q3T
 cases hb:Nat.beq g' g with
 | true =>
   rw[hb] at hg;cases hg;exact qP7 (a:=enL e.as) x
 | false =>
   rw[hb] at hg;exact ht g' ent hg x
structure FE where
 g:FuncId
 ans:Ans
 an:An
 e:Option Ent
 n:Nat:=3
def FE.ent (P:Program)(G:Nat->Bool)(T:z8)(IT:List (FuncId×zEY))(f:FE):Ent:=match f.e with
 | some e=>e
 | none=>zD9 P G T IT f.ans f.an f.n f.g
def bP (P:Program)(G:Nat->Bool)(IT:List (FuncId×zEY)):List FE->z8->z8
 | [],T=>T
 | f::l,T=>bP P G IT l ((f.g,f.ent P G T IT)::T)
def okE (P:Program)(G:Nat->Bool)(IT:List (FuncId×zEY)):List FE->z8->Prop
 | [],_=>True
 | f::l,T=>(enters P f.g&&((P.funcs[f.g]?).isSome&&qRF (f.ent P G T IT).as (f.ent P G T IT).rs (qYJ P f.g)))=true∧qK6 f.n P G T IT f.ans f.an (f.ent P G T IT).as (f.ent P G T IT).rs (qYJ P f.g)=(f.ent P G T IT).F∧okE P G IT l ((f.g,f.ent P G T IT)::T)
theorem Lib.zE2 [zE5 P G][zEZ P G]:∀ (l:List FE) {T:z8},Lib P good G T IT->okE P G IT l T->Lib P good G (bP P G IT l T) IT
 | [],_,L,_=>L
 | f::l,T,L,h=>Lib.zE2 l (L.add0 f.ans f.an f.n f.g (f.ent P G T IT) h.1 fun x=>congrFun h.2.1 x) h.2.2
end
end Go.Sv
