/- Functions of the model's own that take whole numbers, as contracts. Conditions: none. -/
import Derived.Test.YtfcipnpcakejoaaGreatDoorSvB
set_option linter.all false
namespace Go.Sv
open Go.Idl
noncomputable section
variable[Gc]{P:Program}{good:FuncId->Bool}{G:Nat->Bool}{T:qs}{IT:List (FuncId×yX)}
theorem Lib.N7(L:Lib P good G T IT)(g d k F)(h:∀x y,F x=some y->Zg P g ((enL d).p x) (yC k y)):Lib P good G ((g,⟨d,k,F⟩)::T) IT:=by obtain⟨l,j,s,o,m⟩:=L;letI:Yl:=⟨0⟩;refine⟨l,gR j g (gm (enL d) F (yC k)),⟨s.s,λb a r f=>?_⟩,?_,m⟩;{have f:cond (Nat.beq b g) (gm (enL d) F (yC k) a) (j b a)=some r:=f;cases e:Nat.beq b g with|true=>rw[e]at f;obtain⟨x,y,rfl,n,rfl⟩:=J7 f;obtain rfl:=qG2 e;exact .inl (h x y n)|false=>rw[e]at f;exact s.t b a r f};intro _ b i c x;have c:cond (Nat.beq b g) (some ⟨d,k,F⟩) (slT b T)=some i:=c;unfold gR;cases e:Nat.beq b g with|true=>rw[e]at c;cases c;exact rA (a:=enL d) x|false=>rw[e]at c;exact o b i c x
abbrev wM:List Ty:=[.int .u64,.int .u64,.int .u64]
def rH:TyL wM->Option (TyL [.int .u64,.int .u64]):=λx=>cond (Nat.ble (Int.toNat x.2.2) 1) (some (yI x.1 x.2.1 x.2.2,yz x.1 x.2.1 x.2.2)) none
def rS:TyL wM->Option (TyL [.int .u64,.int .u64]):=λx=>cond (Nat.ble (Int.toNat x.2.2) 1) (some (kQ x.1 x.2.1 x.2.2,jK x.1 x.2.1 x.2.2)) none
theorem IB{g}(f:fx P g=3):∀x y,rH x=some y->Zg P g ((enL wM).p x) (yC [.int .u64,.int .u64] y):=by rintro⟨a,b,c⟩y h;unfold rH at h;cases d:Nat.ble (Int.toNat c) 1 with|false=>simp only[d]at h;cases h|true=>simp only[d]at h;cases h;obtain⟨e,i⟩:=Ca (x:=a) (y:=b) f d;exact⟨e,rfl,⟨_,rfl⟩,[(.u64,a),(.u64,b),(.u64,c)],_,rfl,i,rfl,rfl⟩
theorem L_{g}(f:fx P g=4):∀x y,rS x=some y->Zg P g ((enL wM).p x) (yC [.int .u64,.int .u64] y):=by rintro⟨a,b,c⟩y h;unfold rS at h;cases d:Nat.ble (Int.toNat c) 1 with|false=>simp only[d]at h;cases h|true=>simp only[d]at h;cases h;obtain⟨e,i⟩:=CE (x:=a) (y:=b) f d;exact⟨e,rfl,⟨_,rfl⟩,[(.u64,a),(.u64,b),(.u64,c)],_,rfl,i,rfl,rfl⟩
end
end Go.Sv
