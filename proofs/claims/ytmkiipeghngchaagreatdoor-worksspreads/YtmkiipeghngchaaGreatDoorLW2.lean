/- Functions told in lists: by their own code as it stands, or in other words. Conditions: none. -/
import Derived.Test.YtmkiipeghngchaaGreatDoorLW
set_option linter.all false
namespace Go.Sv
open Go.Idl
noncomputable section
variable [Gc][Hnd][Frs]
variable {P:Program}{good:FuncId->Bool}{G:Nat->Bool}{T:zV}{IT:List (FuncId×zFW)}
def qZV (P:Program)(g:FuncId):Func:=(P.funcs[g]?).getD { name := "",origin := "",params:=#[],resultTypes:=#[],nfree:=0,ntmps:=0,results:=#[],body:=none,norace:=false,tmpNames:=#[] }
def tyO (P:Program)(l:List TypeId):List Ty:=l.map fun t=>(qC3 P 8 t).getD .unit
def qH6 [Gc][Hnd][Frs](n:Nat)(P:Program)(G:Nat->Bool)(T:zV)(IT:List (FuncId×zFW))(ans:Ans)(an:An)(az rs:List Ty)(fn:Func)(x:TyL az):Option (TyL rs):=letI:Yl:=⟨0⟩;fnS P G T IT (ciN P G T IT ans n) an az rs fn x
def zE1 (P:Program)(G:Nat->Bool)(T:zV)(IT:List (FuncId×zFW))(ans:Ans)(an:An)(n:Nat)(g:FuncId):Ent :=
 ⟨tyO P (qZV P g).params.toList,tyO P (qZV P g).resultTypes.toList,qH6 n P G T IT ans an _ _ (qZV P g)⟩
theorem q6N {g:FuncId}(h:(P.funcs[g]?).isSome=true):P.funcs[g]?=some (qZV P g):=by
 obtain⟨fn,hfn⟩:=zP1.1 h;unfold qZV;rw[hfn];rfl
theorem Lib.add0 [zF7 P G][zFY P G](L:Lib P good G T IT)(ans:Ans)(an:An)(n:Nat)(g:FuncId)(e:Ent)(hc:(enters P g&&((P.funcs[g]?).isSome&&qSJ e.as e.rs (qZV P g)))=true)
 (hF:∀ x,qH6 n P G T IT ans an e.as e.rs (qZV P g) x=e.F x):Lib P good G ((g,e)::T) IT:=by
 obtain⟨nat,tab,s,ht,hit⟩:=L;rw[zOT,zOT] at hc
 letI:Yl:=⟨0⟩
 have zJA:=zAR (an:=an) (as:=e.as) (rs:=e.rs) s ht hit (qEK s ht hit ans n) (q6N hc.2.1) hc.2.2;rw[show fnS P G T IT (ciN P G T IT ans n) an e.as e.rs (qZV P g)=e.F from funext hF] at zJA;refine⟨_,_,s.add (enL e.as) e.F (jM e.rs) hc.1 (qN3 e.rs) zJA,?_,hit⟩;intro _ g' ent hg x;have hg:cond (Nat.beq g' g) (some e) (slT g' T)=some ent:=hg;unfold q5C
 cases hb:Nat.beq g' g with
 | true =>
   rw[hb] at hg;cases hg;exact qQI (a:=enL e.as) x
 | false =>
   rw[hb] at hg;exact ht g' ent hg x
structure FE where
 g:FuncId
 ans:Ans
 an:An
 e:Option Ent
 n:Nat:=3
def FE.ent (P:Program)(G:Nat->Bool)(T:zV)(IT:List (FuncId×zFW))(f:FE):Ent:=match f.e with
 | some e=>e
 | none=>zE1 P G T IT f.ans f.an f.n f.g
def aJ (P:Program)(G:Nat->Bool)(IT:List (FuncId×zFW)):List FE->zV->zV
 | [],T=>T
 | f::l,T=>aJ P G IT l ((f.g,f.ent P G T IT)::T)
def okE (P:Program)(G:Nat->Bool)(IT:List (FuncId×zFW)):List FE->zV->Prop
 | [],_=>True
 | f::l,T=>(enters P f.g&&((P.funcs[f.g]?).isSome&&qSJ (f.ent P G T IT).as (f.ent P G T IT).rs (qZV P f.g)))=true∧qH6 f.n P G T IT f.ans f.an (f.ent P G T IT).as (f.ent P G T IT).rs (qZV P f.g)=(f.ent P G T IT).F∧okE P G IT l ((f.g,f.ent P G T IT)::T)
theorem Lib.zFX [zF7 P G][zFY P G]:∀ (l:List FE) {T:zV},Lib P good G T IT->okE P G IT l T->Lib P good G (aJ P G IT l T) IT
 | [],_,L,_=>L
 | f::l,T,L,h=>Lib.zFX l (L.add0 f.ans f.an f.n f.g (f.ent P G T IT) h.1 fun x=>congrFun h.2.1 x) h.2.2
end
end Go.Sv
