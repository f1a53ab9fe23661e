/- Functions of the model's own that take whole numbers, as contracts. Conditions: none. -/
import Derived.Test.YtihofndbgpmloaaGreatDoorSvB
set_option linter.all false
namespace Go.Sv
open Go.Idl
noncomputable section
variable[Gc]{P:Program}{good:FuncId->Bool}{G:Nat->Bool}{T:zL}{IT:List (FuncId×yd)}
theorem Lib.Mv(L:Lib P good G T IT)(g d k F)(h:∀x y,F x=some y->ZK P g ((enL d).p x) (yE k y)):Lib P good G ((g,⟨d,k,F⟩)::T) IT:=by obtain⟨l,j,s,o,m⟩:=L;letI:Yl:=⟨0⟩;refine⟨l,bh j g (cN (enL d) F (yE k)),⟨s.s,λb a r f=>?_⟩,?_,m⟩;{have f:cond (Nat.beq b g) (cN (enL d) F (yE k) a) (j b a)=some r:=f;cases e:Nat.beq b g with|true=>rw[e]at f;obtain⟨x,y,rfl,n,rfl⟩:=Bl f;obtain rfl:=qGo e;exact .inl (h x y n)|false=>rw[e]at f;exact s.t b a r f};intro _ b i c x;have c:cond (Nat.beq b g) (some ⟨d,k,F⟩) (slT b T)=some i:=c;unfold bh;cases e:Nat.beq b g with|true=>rw[e]at c;cases c;exact QZ (a:=enL d) x|false=>rw[e]at c;exact o b i c x
abbrev vw:List Ty:=[.int .u64,.int .u64,.int .u64]
def pn:TyL vw->Option (TyL [.int .u64,.int .u64]):=λx=>cond (Nat.ble (Int.toNat x.2.2) 1) (some (zy x.1 x.2.1 x.2.2,yj x.1 x.2.1 x.2.2)) none
def po:TyL vw->Option (TyL [.int .u64,.int .u64]):=λx=>cond (Nat.ble (Int.toNat x.2.2) 1) (some (kG x.1 x.2.1 x.2.2,ky x.1 x.2.1 x.2.2)) none
theorem Lf{g}(f:fG P g=3):∀x y,pn x=some y->ZK P g ((enL vw).p x) (yE [.int .u64,.int .u64] y):=by rintro⟨a,b,c⟩y h;unfold pn at h;cases d:Nat.ble (Int.toNat c) 1 with|false=>simp only[d]at h;cases h|true=>simp only[d]at h;cases h;obtain⟨e,i⟩:=Bm (x:=a) (y:=b) f d;exact⟨e,rfl,⟨_,rfl⟩,[(.u64,a),(.u64,b),(.u64,c)],_,rfl,i,rfl,rfl⟩
theorem Lk{g}(f:fG P g=4):∀x y,po x=some y->ZK P g ((enL vw).p x) (yE [.int .u64,.int .u64] y):=by rintro⟨a,b,c⟩y h;unfold po at h;cases d:Nat.ble (Int.toNat c) 1 with|false=>simp only[d]at h;cases h|true=>simp only[d]at h;cases h;obtain⟨e,i⟩:=B9 (x:=a) (y:=b) f d;exact⟨e,rfl,⟨_,rfl⟩,[(.u64,a),(.u64,b),(.u64,c)],_,rfl,i,rfl,rfl⟩
end
end Go.Sv
