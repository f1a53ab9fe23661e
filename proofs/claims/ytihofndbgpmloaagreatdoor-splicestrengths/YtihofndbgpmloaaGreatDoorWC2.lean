/- Convergents as texts: what the reference says of them. Conditions: none. -/
import Derived.Test.YtihofndbgpmloaaGreatDoorWC1
set_option linter.all false
set_option maxRecDepth 10000
set_option maxHeartbeats 100000000
namespace Go.Proofs.YtihofndbgpmloaaGreatDoor
open Go Go.Idl Go.Sv Go.Proofs
noncomputable section
theorem Sr(q:Rat):∃r,rqL q=sg (decide (q.num<0)) r/\(decide (q.num<0)=false->r.head?≠some 45)/\r.length<=(dec q.num.natAbs).length+1+(dec q.den).length/\∀c:Int,((∀x∈r,x≠47)->cdA (decide (q.num<0)) r c)/\(∀a b,r=a++47::b->(∀x∈a,x≠47)->cdB (decide (q.num<0)) a b c)->c=0:=by(have ck:ckN (decide (q.num<0)) (dec q.num.natAbs):=by refine⟨mn _,fun⟨a,b⟩=>?_⟩;have a:=of_decide_eq_true a;have:=vC q.num.natAbs;rw[b]at this;have:(0:Nat)=q.num.natAbs:=this;omega);have hn:∀x∈dec q.num.natAbs,x≠47:=λx hx=>(gd (yQ _) x hx).1;by_cases hd:q.den=1;{refine⟨dec q.num.natAbs,?_,λ_=>ti (yQ _) rfl,by omega,λc h=>?_⟩;{unfold rqL;rw[if_pos hd,qH1,y6]};rcases h.1 hn with h|h;{exact h.2};exact absurd ck h.1};(have hb:ckD (dec q.den):=by refine⟨mn _,λe=>?_,λe=>?_⟩;{have:=vC q.den;rw[e]at this;have:(0:Nat)=q.den:=this;exact q.den_nz this.symm};have:=vC q.den;rw[e]at this;exact hd this.symm);refine⟨dec q.num.natAbs++47::dec q.den,?_,?_,by simp;omega,λc h=>?_⟩;{unfold rqL;rw[if_neg hd,y6,Ci]};{intro _ e;(have yg:dec q.num.natAbs≠[]:=λe2=>by have:=QG q.num.natAbs;rw[e2]at this;cases this);have hh:=ti (yQ q.num.natAbs) (g:=false) rfl;obtain⟨c,m,e2⟩:=qHx yg;rw[e2]at e hh;exact hh e};rcases h.2 _ _ rfl hn with h|h;{exact h.2};exact absurd ⟨ck,hb,by rw[vC,vC];exact q.reduced⟩ h.1
theorem Iz(n:Int):rt (abR (n:Rat))=tx (dec n.natAbs):=by(have:abR (n:Rat)=((n.natAbs:Int):Rat):=by unfold abR;rw[Rat.num_intCast];split;{rw[<-Rat.intCast_neg];congr 1;omega};congr 1;omega);rw[this,c_,uL (by omega)];rfl
end
end Go.Proofs.YtihofndbgpmloaaGreatDoor
