/- Convergents as texts: what the reference says of them. Conditions: none. -/
import Derived.Test.YtihofndbgpmloaaGreatDoorWC1
set_option linter.all false
set_option maxRecDepth 10000
set_option maxHeartbeats 100000000
namespace Go.Proofs.YtihofndbgpmloaaGreatDoor
open Go Go.Idl Go.Sv Go.Proofs
noncomputable section
theorem Jg(q:Rat):∃r,rqL q=sg (decide (q.num<0)) r/\(decide (q.num<0)=false->r.head?≠some 45)/\r.length<=(dec q.num.natAbs).length+1+(dec q.den).length/\∀c:Int,((∀x∈r,x≠47)->cdA (decide (q.num<0)) r c)/\(∀a b,r=a++47::b->(∀x∈a,x≠47)->cdB (decide (q.num<0)) a b c)->c=0:=by(have ck:ckN (decide (q.num<0)) (dec q.num.natAbs):=by refine⟨nj _,fun⟨a,b⟩=>?_⟩;have a:=of_decide_eq_true a;have:=vS q.num.natAbs;rw[b]at this;have:(0:Nat)=q.num.natAbs:=this;omega);have hn:∀x∈dec q.num.natAbs,x≠47:=λx hx=>(fQ (xS _) x hx).1;by_cases hd:q.den=1;{refine⟨dec q.num.natAbs,?_,λ_=>Qz (xS _) rfl,by omega,λc h=>?_⟩;{unfold rqL;rw[if_pos hd,qKU,yx]};rcases h.1 hn with h|h;{exact h.2};exact absurd ck h.1};(have hb:ckD (dec q.den):=by refine⟨nj _,λe=>?_,λe=>?_⟩;{have:=vS q.den;rw[e]at this;have:(0:Nat)=q.den:=this;exact q.den_nz this.symm};have:=vS q.den;rw[e]at this;exact hd this.symm);refine⟨dec q.num.natAbs++47::dec q.den,?_,?_,by simp;omega,λc h=>?_⟩;{unfold rqL;rw[if_neg hd,yx,MC]};{intro _ e;(have yr:dec q.num.natAbs≠[]:=λe2=>by have:=Zi q.num.natAbs;rw[e2]at this;cases this);have hh:=Qz (xS q.num.natAbs) (g:=false) rfl;obtain⟨c,m,e2⟩:=qKq yr;rw[e2]at e hh;exact hh e};rcases h.2 _ _ rfl hn with h|h;{exact h.2};exact absurd ⟨ck,hb,by rw[vS,vS];exact q.reduced⟩ h.1
theorem dl{n:Nat}(h:n<10^200):(dec n).length<=200:=we (k:=199) h
theorem qB8{q:Rat}(hn:q.num.natAbs<10^200)(hd:q.den<10^200):H29 (rt q)=some 0:=by obtain⟨r,e,h,l,s⟩:=Jg q;have l1:=dl hn;have l2:=dl hd;obtain⟨c,a,b⟩:=h29 h (show r.length<=500 by omega);rw[<-s c b];unfold rt;rw[e];exact a
end
end Go.Proofs.YtihofndbgpmloaaGreatDoor
