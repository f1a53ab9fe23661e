/- Functions told in lists: by their own code as it stands, or in other words. Conditions: none. -/
import Derived.Test.YtdohendjiddokaaGreatDoorLW
set_option linter.all false
namespace Go.Sv
open Go.Idl
noncomputable section
variable [Gc][Hnd][Frs]
variable {P:Program}{good:FuncId->Bool}{G:Nat->Bool}{T:zX}{IT:List (FuncId×zG6)}
def qZ5 (P:Program)(g:FuncId):Func:=(P.funcs[g]?).getD { name := "",origin := "",params:=#[],resultTypes:=#[],nfree:=0,ntmps:=0,results:=#[],body:=none,norace:=false,tmpNames:=#[] }
def tyO (P:Program)(l:List TypeId):List Ty:=l.map fun t=>(qBV P 8 t).getD .unit
def qEV [Gc][Hnd][Frs](n:Nat)(P:Program)(G:Nat->Bool)(T:zX)(IT:List (FuncId×zG6))(ans:Ans)(an:An)(az rs:List Ty)(fn:Func)(x:TyL az):Option (TyL rs):=letI:Yl:=⟨0⟩;fnS P G T IT (ciN P G T IT ans n) an az rs fn x
def zGI (P:Program)(G:Nat->Bool)(T:zX)(IT:List (FuncId×zG6))(ans:Ans)(an:An)(n:Nat)(g:FuncId):Ent :=
 ⟨tyO P (qZ5 P g).params.toList,tyO P (qZ5 P g).resultTypes.toList,qEV n P G T IT ans an _ _ (qZ5 P g)⟩
theorem q7K {g:FuncId}(h:(P.funcs[g]?).isSome=true):P.funcs[g]?=some (qZ5 P g):=by
 obtain⟨fn,hfn⟩:=zQ5.1 h;unfold qZ5;rw[hfn];rfl
theorem Lib.add0 [zHH P G][zG8 P G](L:Lib P good G T IT)(ans:Ans)(an:An)(n:Nat)(g:FuncId)(e:Ent)(hc:(enters P g&&((P.funcs[g]?).isSome&&qTM e.as e.rs (qZ5 P g)))=true)
 (hF:∀ x,qEV n P G T IT ans an e.as e.rs (qZ5 P g) x=e.F x):Lib P good G ((g,e)::T) IT:=by
 obtain⟨nat,tab,s,ht,hit⟩:=L;rw[zPY,zPY] at hc
 letI:Yl:=⟨0⟩
 have zKL:=zA3 (an:=an) (as:=e.as) (rs:=e.rs) s ht hit (qEW s ht hit ans n) (q7K hc.2.1) hc.2.2;rw[show fnS P G T IT (ciN P G T IT ans n) an e.as e.rs (qZ5 P g)=e.F from funext hF] at zKL;refine⟨_,_,s.add (enL e.as) e.F (jP e.rs) hc.1 (qOY e.rs) zKL,?_,hit⟩;intro _ g' ent hg x;have hg:cond (Nat.beq g' g) (some e) (slT g' T)=some ent:=hg;unfold q4T
 cases hb:Nat.beq g' g with
 | true =>
   rw[hb] at hg;cases hg;exact qR2 (a:=enL e.as) x
 | false =>
   rw[hb] at hg;exact ht g' ent hg x
structure FE where
 g:FuncId
 ans:Ans
 an:An
 e:Option Ent
 n:Nat:=3
def FE.ent (P:Program)(G:Nat->Bool)(T:zX)(IT:List (FuncId×zG6))(f:FE):Ent:=match f.e with
 | some e=>e
 | none=>zGI P G T IT f.ans f.an f.n f.g
def aK (P:Program)(G:Nat->Bool)(IT:List (FuncId×zG6)):List FE->zX->zX
 | [],T=>T
 | f::l,T=>aK P G IT l ((f.g,f.ent P G T IT)::T)
def okE (P:Program)(G:Nat->Bool)(IT:List (FuncId×zG6)):List FE->zX->Prop
 | [],_=>True
 | f::l,T=>(enters P f.g&&((P.funcs[f.g]?).isSome&&qTM (f.ent P G T IT).as (f.ent P G T IT).rs (qZ5 P f.g)))=true∧qEV f.n P G T IT f.ans f.an (f.ent P G T IT).as (f.ent P G T IT).rs (qZ5 P f.g)=(f.ent P G T IT).F∧okE P G IT l ((f.g,f.ent P G T IT)::T)
theorem Lib.zG7 [zHH P G][zG8 P G]:∀ (l:List FE) {T:zX},Lib P good G T IT->okE P G IT l T->Lib P good G (aK P G IT l T) IT
 | [],_,L,_=>L
 | f::l,T,L,h=>Lib.zG7 l (L.add0 f.ans f.an f.n f.g (f.ent P G T IT) h.1 fun x=>congrFun h.2.1 x) h.2.2
end
end Go.Sv
