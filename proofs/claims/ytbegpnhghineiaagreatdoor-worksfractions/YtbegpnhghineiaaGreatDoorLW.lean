/- A contract that says less, in other words. Conditions: none. -/
import Derived.Test.YtbegpnhghineiaaGreatDoorSvB
set_option linter.all false
namespace Go.Sv
open Go.Idl
noncomputable section
variable[Gc]
variable{P:Program}{good:FuncId->Bool}{G:Nat->Bool}{T:qo}{IT:List (FuncId×yV)}
theorem Lib.weak(L:Lib P good G T IT)(g){f i F S}(p:slT g T=some ⟨f,i,F⟩)(h:∀x y,S x=some y->F x=some y):Lib P good G ((g,⟨f,i,S⟩)::T) IT:=by obtain⟨l,k,s,n,m⟩:=L;letI:Yl:=⟨0⟩;refine⟨l,hP k g (gR (enL f) S (z_ i)),⟨s.s,λb a r d=>?_⟩,?_,m⟩;{have d:cond (Nat.beq b g) (gR (enL f) S (z_ i) a) (k b a)=some r:=d;cases c:Nat.beq b g with|true=>rw[c]at d;obtain⟨x,y,rfl,o,rfl⟩:=Ke d;obtain rfl:=qEu c;refine s.t b _ _ ?_;have:=n b _ p x;exact this.trans (congrArg (Option.map (z_ i)) (h x y o))|false=>rw[c]at d;exact s.t b a r d};intro _ b j e x;have e:cond (Nat.beq b g) (some ⟨f,i,S⟩) (slT b T)=some j:=e;unfold hP;cases c:Nat.beq b g with|true=>rw[c]at e;cases e;exact pE (a:=enL f) x|false=>rw[c]at e;exact n b j e x
end
end Go.Sv
