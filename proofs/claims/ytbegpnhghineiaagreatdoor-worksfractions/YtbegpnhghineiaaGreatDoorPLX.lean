/- Functions of the model's own that take whole numbers, as contracts. Conditions: none. -/
import Derived.Test.YtbegpnhghineiaaGreatDoorSvB
set_option linter.all false
namespace Go.Sv
open Go.Idl
noncomputable section
variable[Gc]{P:Program}{good:FuncId->Bool}{G:Nat->Bool}{T:qo}{IT:List (FuncId×yV)}
theorem Lib.MS(L:Lib P good G T IT)(g d k F)(h:∀x y,F x=some y->Qu P g ((enL d).p x) (z_ k y)):Lib P good G ((g,⟨d,k,F⟩)::T) IT:=by obtain⟨l,j,s,o,m⟩:=L;letI:Yl:=⟨0⟩;refine⟨l,hP j g (gR (enL d) F (z_ k)),⟨s.s,λb a r f=>?_⟩,?_,m⟩;{have f:cond (Nat.beq b g) (gR (enL d) F (z_ k) a) (j b a)=some r:=f;cases e:Nat.beq b g with|true=>rw[e]at f;obtain⟨x,y,rfl,n,rfl⟩:=Ke f;obtain rfl:=qEu e;exact .inl (h x y n)|false=>rw[e]at f;exact s.t b a r f};intro _ b i c x;have c:cond (Nat.beq b g) (some ⟨d,k,F⟩) (slT b T)=some i:=c;unfold hP;cases e:Nat.beq b g with|true=>rw[e]at c;cases c;exact pE (a:=enL d) x|false=>rw[e]at c;exact o b i c x
abbrev vz:List Ty:=[.int .u64,.int .u64,.int .u64]
def pd:TyL vz->Option (TyL [.int .u64,.int .u64]):=λx=>cond (Nat.ble (Int.toNat x.2.2) 1) (some (yC x.1 x.2.1 x.2.2,yp x.1 x.2.1 x.2.2)) none
def pZ:TyL vz->Option (TyL [.int .u64,.int .u64]):=λx=>cond (Nat.ble (Int.toNat x.2.2) 1) (some (kL x.1 x.2.1 x.2.2,jF x.1 x.2.1 x.2.2)) none
theorem ll{g}(f:fX P g=3):∀x y,pd x=some y->Qu P g ((enL vz).p x) (z_ [.int .u64,.int .u64] y):=by rintro⟨a,b,c⟩y h;unfold pd at h;cases d:Nat.ble (Int.toNat c) 1 with|false=>simp only[d]at h;cases h|true=>simp only[d]at h;cases h;obtain⟨e,i⟩:=BS (x:=a) (y:=b) f d;exact⟨e,rfl,⟨_,rfl⟩,[(.u64,a),(.u64,b),(.u64,c)],_,rfl,i,rfl,rfl⟩
theorem L6{g}(f:fX P g=4):∀x y,pZ x=some y->Qu P g ((enL vz).p x) (z_ [.int .u64,.int .u64] y):=by rintro⟨a,b,c⟩y h;unfold pZ at h;cases d:Nat.ble (Int.toNat c) 1 with|false=>simp only[d]at h;cases h|true=>simp only[d]at h;cases h;obtain⟨e,i⟩:=BW (x:=a) (y:=b) f d;exact⟨e,rfl,⟨_,rfl⟩,[(.u64,a),(.u64,b),(.u64,c)],_,rfl,i,rfl,rfl⟩
end
end Go.Sv
