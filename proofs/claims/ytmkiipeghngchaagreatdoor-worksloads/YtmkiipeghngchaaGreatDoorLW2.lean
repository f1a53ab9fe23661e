/- Functions told in lists: by their own code as it stands, or in other words. Conditions: none. -/
import Derived.Test.YtmkiipeghngchaaGreatDoorLW
set_option linter.all false
namespace Go.Sv
open Go.Idl
noncomputable section
variable [Gc][Hnd][Frs]
variable {P:Program}{good:FuncId->Bool}{G:Nat->Bool}{T:zQ}{IT:List (FuncId×zFB)}
def qY7 (P:Program)(g:FuncId):Func:=(P.funcs[g]?).getD { name := "",origin := "",params:=#[],resultTypes:=#[],nfree:=0,ntmps:=0,results:=#[],body:=none,norace:=false,tmpNames:=#[] }
def tyO (P:Program)(l:List TypeId):List Ty:=l.map fun t=>(qBA P 8 t).getD .unit
def qFP [Gc][Hnd][Frs](n:Nat)(P:Program)(G:Nat->Bool)(T:zQ)(IT:List (FuncId×zFB))(ans:Ans)(an:An)(az rs:List Ty)(fn:Func)(x:TyL az):Option (TyL rs):=letI:Yl:=⟨0⟩;fnS P G T IT (ciN P G T IT ans n) an az rs fn x
def zEH (P:Program)(G:Nat->Bool)(T:zQ)(IT:List (FuncId×zFB))(ans:Ans)(an:An)(n:Nat)(g:FuncId):Ent :=
 ⟨tyO P (qY7 P g).params.toList,tyO P (qY7 P g).resultTypes.toList,qFP n P G T IT ans an _ _ (qY7 P g)⟩
theorem q6M {g:FuncId}(h:(P.funcs[g]?).isSome=true):P.funcs[g]?=some (qY7 P g):=by
 obtain⟨fn,hfn⟩:=zPE.1 h;unfold qY7;rw[hfn];rfl
theorem Lib.add0 [zFK P G][zFC P G](L:Lib P good G T IT)(ans:Ans)(an:An)(n:Nat)(g:FuncId)(e:Ent)(hc:(enters P g&&((P.funcs[g]?).isSome&&qSB e.as e.rs (qY7 P g)))=true)
 (hF:∀ x,qFP n P G T IT ans an e.as e.rs (qY7 P g) x=e.F x):Lib P good G ((g,e)::T) IT:=by
 obtain⟨nat,tab,s,ht,hit⟩:=L;rw[zN8,zN8] at hc
 letI:Yl:=⟨0⟩
 have zIN:=zA3 (an:=an) (as:=e.as) (rs:=e.rs) s ht hit (qEB s ht hit ans n) (q6M hc.2.1) hc.2.2;rw[show fnS P G T IT (ciN P G T IT ans n) an e.as e.rs (qY7 P g)=e.F from funext hF] at zIN;refine⟨_,_,s.add (enL e.as) e.F (jL e.rs) hc.1 (qN9 e.rs) zIN,?_,hit⟩;intro _ g' ent hg x;have hg:cond (Nat.beq g' g) (some e) (slT g' T)=some ent:=hg;unfold q4J
 cases hb:Nat.beq g' g with
 | true =>
   rw[hb] at hg;cases hg;exact qQM (a:=enL e.as) x
 | false =>
   rw[hb] at hg;exact ht g' ent hg x
structure FE where
 g:FuncId
 ans:Ans
 an:An
 e:Option Ent
 n:Nat:=3
def FE.ent (P:Program)(G:Nat->Bool)(T:zQ)(IT:List (FuncId×zFB))(f:FE):Ent:=match f.e with
 | some e=>e
 | none=>zEH P G T IT f.ans f.an f.n f.g
def fV (P:Program)(G:Nat->Bool)(IT:List (FuncId×zFB)):List FE->zQ->zQ
 | [],T=>T
 | f::l,T=>fV P G IT l ((f.g,f.ent P G T IT)::T)
def okE (P:Program)(G:Nat->Bool)(IT:List (FuncId×zFB)):List FE->zQ->Prop
 | [],_=>True
 | f::l,T=>(enters P f.g&&((P.funcs[f.g]?).isSome&&qSB (f.ent P G T IT).as (f.ent P G T IT).rs (qY7 P f.g)))=true∧qFP f.n P G T IT f.ans f.an (f.ent P G T IT).as (f.ent P G T IT).rs (qY7 P f.g)=(f.ent P G T IT).F∧okE P G IT l ((f.g,f.ent P G T IT)::T)
theorem Lib.zFA [zFK P G][zFC P G]:∀ (l:List FE) {T:zQ},Lib P good G T IT->okE P G IT l T->Lib P good G (fV P G IT l T) IT
 | [],_,L,_=>L
 | f::l,T,L,h=>Lib.zFA l (L.add0 f.ans f.an f.n f.g (f.ent P G T IT) h.1 fun x=>congrFun h.2.1 x) h.2.2
end
end Go.Sv
