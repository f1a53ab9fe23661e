/- Functions told in lists: by their own code as it stands, or in other words. Conditions: none. -/
import Derived.Test.YtpnecffgnjijjaaGreatDoorLW
set_option linter.all false
namespace Go.Sv
open Go.Idl
noncomputable section
variable [Gc][Hnd][Frs]
variable {P:Program}{good:FuncId->Bool}{G:Nat->Bool}{T:yY}{IT:List (FuncId×zFV)}
def qYV (P:Program)(g:FuncId):Func:=(P.funcs[g]?).getD { name := "",origin := "",params:=#[],resultTypes:=#[],nfree:=0,ntmps:=0,results:=#[],body:=none,norace:=false,tmpNames:=#[] }
def tyO (P:Program)(l:List TypeId):List Ty:=l.map fun t=>(qED P 8 t).getD .unit
def qSR [Gc][Hnd][Frs](n:Nat)(P:Program)(G:Nat->Bool)(T:yY)(IT:List (FuncId×zFV))(ans:Ans)(an:An)(az rs:List Ty)(fn:Func)(x:TyL az):Option (TyL rs):=letI:Yl:=⟨0⟩;fnS P G T IT (ciN P G T IT ans n) an az rs fn x
def zEY (P:Program)(G:Nat->Bool)(T:yY)(IT:List (FuncId×zFV))(ans:Ans)(an:An)(n:Nat)(g:FuncId):Ent :=
 ⟨tyO P (qYV P g).params.toList,tyO P (qYV P g).resultTypes.toList,qSR n P G T IT ans an _ _ (qYV P g)⟩
theorem q6K {g:FuncId}(h:(P.funcs[g]?).isSome=true):P.funcs[g]?=some (qYV P g):=by
 obtain⟨fn,hfn⟩:=zN2.1 h;unfold qYV;rw[hfn];rfl
theorem Lib.add0 [zF9 P G][zFW P G](L:Lib P good G T IT)(ans:Ans)(an:An)(n:Nat)(g:FuncId)(e:Ent)(hc:(enters P g&&((P.funcs[g]?).isSome&&qRU e.as e.rs (qYV P g)))=true)
 (hF:∀ x,qSR n P G T IT ans an e.as e.rs (qYV P g) x=e.F x):Lib P good G ((g,e)::T) IT:=by
 obtain⟨nat,tab,s,ht,hit⟩:=L;rw[zMY,zMY] at hc
 letI:Yl:=⟨0⟩
 have zI1:=zBD (an:=an) (as:=e.as) (rs:=e.rs) s ht hit (qKP s ht hit ans n) (q6K hc.2.1) hc.2.2;rw[show fnS P G T IT (ciN P G T IT ans n) an e.as e.rs (qYV P g)=e.F from funext hF] at zI1;refine⟨_,_,s.add (enL e.as) e.F (kY e.rs) hc.1 (qNB e.rs) zI1,?_,hit⟩;intro _ g' ent hg x;have hg:cond (Nat.beq g' g) (some e) (slT g' T)=some ent:=hg;unfold q2Z
 cases hb:Nat.beq g' g with
 | true =>
   rw[hb] at hg;cases hg;exact qP1 (a:=enL e.as) x
 | false =>
   rw[hb] at hg;exact ht g' ent hg x
structure FE where
 g:FuncId
 ans:Ans
 an:An
 e:Option Ent
 n:Nat:=3
def FE.ent (P:Program)(G:Nat->Bool)(T:yY)(IT:List (FuncId×zFV))(f:FE):Ent:=match f.e with
 | some e=>e
 | none=>zEY P G T IT f.ans f.an f.n f.g
def tZ (P:Program)(G:Nat->Bool)(IT:List (FuncId×zFV)):List FE->yY->yY
 | [],T=>T
 | f::l,T=>tZ P G IT l ((f.g,f.ent P G T IT)::T)
def okE (P:Program)(G:Nat->Bool)(IT:List (FuncId×zFV)):List FE->yY->Prop
 | [],_=>True
 | f::l,T=>(enters P f.g&&((P.funcs[f.g]?).isSome&&qRU (f.ent P G T IT).as (f.ent P G T IT).rs (qYV P f.g)))=true∧qSR f.n P G T IT f.ans f.an (f.ent P G T IT).as (f.ent P G T IT).rs (qYV P f.g)=(f.ent P G T IT).F∧okE P G IT l ((f.g,f.ent P G T IT)::T)
theorem Lib.zGE [zF9 P G][zFW P G]:∀ (l:List FE) {T:yY},Lib P good G T IT->okE P G IT l T->Lib P good G (tZ P G IT l T) IT
 | [],_,L,_=>L
 | f::l,T,L,h=>Lib.zGE l (L.add0 f.ans f.an f.n f.g (f.ent P G T IT) h.1 fun x=>congrFun h.2.1 x) h.2.2
end
end Go.Sv
