/- Functions told in lists: by their own code as it stands, or in other words. Conditions: none. -/
import Derived.Test.YtjcflcpjglpicaaGreatDoorLW
set_option linter.all false
namespace Go.Sv
open Go.Idl
noncomputable section
variable [Gc][Hnd][Frs]
variable {P:Program}{good:FuncId->Bool}{G:Nat->Bool}{T:zT}{IT:List (FuncId×zGS)}
def qZW (P:Program)(g:FuncId):Func:=(P.funcs[g]?).getD { name := "",origin := "",params:=#[],resultTypes:=#[],nfree:=0,ntmps:=0,results:=#[],body:=none,norace:=false,tmpNames:=#[] }
def tyO (P:Program)(l:List TypeId):List Ty:=l.map fun t=>(qDK P 8 t).getD .unit
def qF2 [Gc][Hnd][Frs](n:Nat)(P:Program)(G:Nat->Bool)(T:zT)(IT:List (FuncId×zGS))(ans:Ans)(an:An)(az rs:List Ty)(fn:Func)(x:TyL az):Option (TyL rs):=letI:Yl:=⟨0⟩;fnS P G T IT (ciN P G T IT ans n) an az rs fn x
def zFT (P:Program)(G:Nat->Bool)(T:zT)(IT:List (FuncId×zGS))(ans:Ans)(an:An)(n:Nat)(g:FuncId):Ent :=
 ⟨tyO P (qZW P g).params.toList,tyO P (qZW P g).resultTypes.toList,qF2 n P G T IT ans an _ _ (qZW P g)⟩
theorem q7R {g:FuncId}(h:(P.funcs[g]?).isSome=true):P.funcs[g]?=some (qZW P g):=by
 obtain⟨fn,hfn⟩:=zQO.1 h;unfold qZW;rw[hfn];rfl
theorem Lib.add0 [zG1 P G][zGT P G](L:Lib P good G T IT)(ans:Ans)(an:An)(n:Nat)(g:FuncId)(e:Ent)(hc:(enters P g&&((P.funcs[g]?).isSome&&qTX e.as e.rs (qZW P g)))=true)
 (hF:∀ x,qF2 n P G T IT ans an e.as e.rs (qZW P g) x=e.F x):Lib P good G ((g,e)::T) IT:=by
 obtain⟨nat,tab,s,ht,hit⟩:=L;rw[zPK,zPK] at hc
 letI:Yl:=⟨0⟩
 have zJ4:=zBE (an:=an) (as:=e.as) (rs:=e.rs) s ht hit (qFO s ht hit ans n) (q7R hc.2.1) hc.2.2;rw[show fnS P G T IT (ciN P G T IT ans n) an e.as e.rs (qZW P g)=e.F from funext hF] at zJ4;refine⟨_,_,s.add (enL e.as) e.F (jO e.rs) hc.1 (qOO e.rs) zJ4,?_,hit⟩;intro _ g' ent hg x;have hg:cond (Nat.beq g' g) (some e) (slT g' T)=some ent:=hg;unfold q4Z
 cases hb:Nat.beq g' g with
 | true =>
   rw[hb] at hg;cases hg;exact qQL (a:=enL e.as) x
 | false =>
   rw[hb] at hg;exact ht g' ent hg x
structure FE where
 g:FuncId
 ans:Ans
 an:An
 e:Option Ent
 n:Nat:=3
def FE.ent (P:Program)(G:Nat->Bool)(T:zT)(IT:List (FuncId×zGS))(f:FE):Ent:=match f.e with
 | some e=>e
 | none=>zFT P G T IT f.ans f.an f.n f.g
def aD (P:Program)(G:Nat->Bool)(IT:List (FuncId×zGS)):List FE->zT->zT
 | [],T=>T
 | f::l,T=>aD P G IT l ((f.g,f.ent P G T IT)::T)
def okE (P:Program)(G:Nat->Bool)(IT:List (FuncId×zGS)):List FE->zT->Prop
 | [],_=>True
 | f::l,T=>(enters P f.g&&((P.funcs[f.g]?).isSome&&qTX (f.ent P G T IT).as (f.ent P G T IT).rs (qZW P f.g)))=true∧qF2 f.n P G T IT f.ans f.an (f.ent P G T IT).as (f.ent P G T IT).rs (qZW P f.g)=(f.ent P G T IT).F∧okE P G IT l ((f.g,f.ent P G T IT)::T)
theorem Lib.zGR [zG1 P G][zGT P G]:∀ (l:List FE) {T:zT},Lib P good G T IT->okE P G IT l T->Lib P good G (aD P G IT l T) IT
 | [],_,L,_=>L
 | f::l,T,L,h=>Lib.zGR l (L.add0 f.ans f.an f.n f.g (f.ent P G T IT) h.1 fun x=>congrFun h.2.1 x) h.2.2
end
end Go.Sv
