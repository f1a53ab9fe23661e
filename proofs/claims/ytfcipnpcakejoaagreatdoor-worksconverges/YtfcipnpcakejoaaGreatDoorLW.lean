/- A contract that says less, in other words. Conditions: none. -/
import Derived.Test.YtfcipnpcakejoaaGreatDoorSvB
set_option linter.all false
namespace Go.Sv
open Go.Idl
noncomputable section
variable[Gc]
variable{P:Program}{good:FuncId->Bool}{G:Nat->Bool}{T:qs}{IT:List (FuncId×yX)}
theorem Lib.weak(L:Lib P good G T IT)(g){f i F S}(p:slT g T=some ⟨f,i,F⟩)(h:∀x y,S x=some y->F x=some y):Lib P good G ((g,⟨f,i,S⟩)::T) IT:=by obtain⟨l,k,s,n,m⟩:=L;letI:Yl:=⟨0⟩;refine⟨l,gR k g (gm (enL f) S (yC i)),⟨s.s,λb a r d=>?_⟩,?_,m⟩;{have d:cond (Nat.beq b g) (gm (enL f) S (yC i) a) (k b a)=some r:=d;cases c:Nat.beq b g with|true=>rw[c]at d;obtain⟨x,y,rfl,o,rfl⟩:=J7 d;obtain rfl:=qG2 c;refine s.t b _ _ ?_;have:=n b _ p x;exact this.trans (congrArg (Option.map (yC i)) (h x y o))|false=>rw[c]at d;exact s.t b a r d};intro _ b j e x;have e:cond (Nat.beq b g) (some ⟨f,i,S⟩) (slT b T)=some j:=e;unfold gR;cases c:Nat.beq b g with|true=>rw[c]at e;cases e;exact rA (a:=enL f) x|false=>rw[c]at e;exact n b j e x
end
end Go.Sv
