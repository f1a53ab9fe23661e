/- Functions of the model's own that take whole numbers, as contracts. Conditions: none. -/
import Derived.Test.YtihofndbgpmloaaGreatDoorSvB
set_option linter.all false
namespace Go.Sv
open Go.Idl
noncomputable section
variable[Gc]{P:Program}{good:FuncId->Bool}{G:Nat->Bool}{T:zM}{IT:List (FuncId×yq)}
theorem Lib.O_(L:Lib P good G T IT)(g d k F)(h:∀x y,F x=some y->Yi P g ((enL d).p x) (yN k y)):Lib P good G ((g,⟨d,k,F⟩)::T) IT:=by obtain⟨l,j,s,o,m⟩:=L;letI:Yl:=⟨0⟩;refine⟨l,cM j g (dD (enL d) F (yN k)),⟨s.s,λb a r f=>?_⟩,?_,m⟩;{have f:cond (Nat.beq b g) (dD (enL d) F (yN k) a) (j b a)=some r:=f;cases e:Nat.beq b g with|true=>rw[e]at f;obtain⟨x,y,rfl,n,rfl⟩:=DL f;obtain rfl:=qJ9 e;exact .inl (h x y n)|false=>rw[e]at f;exact s.t b a r f};intro _ b i c x;have c:cond (Nat.beq b g) (some ⟨d,k,F⟩) (slT b T)=some i:=c;unfold cM;cases e:Nat.beq b g with|true=>rw[e]at c;cases c;exact YW (a:=enL d) x|false=>rw[e]at c;exact o b i c x
abbrev wP:List Ty:=[.int .u64,.int .u64,.int .u64]
def sN:TyL wP->Option (TyL [.int .u64,.int .u64]):=λx=>cond (Nat.ble (Int.toNat x.2.2) 1) (some (yE x.1 x.2.1 x.2.2,y_ x.1 x.2.1 x.2.2)) none
def sH:TyL wP->Option (TyL [.int .u64,.int .u64]):=λx=>cond (Nat.ble (Int.toNat x.2.2) 1) (some (kR x.1 x.2.1 x.2.2,jK x.1 x.2.1 x.2.2)) none
theorem qA4{g}(f:aA P g=3):∀x y,sN x=some y->Yi P g ((enL wP).p x) (yN [.int .u64,.int .u64] y):=by rintro⟨a,b,c⟩y h;unfold sN at h;cases d:Nat.ble (Int.toNat c) 1 with|false=>simp only[d]at h;cases h|true=>simp only[d]at h;cases h;obtain⟨e,i⟩:=EO (x:=a) (y:=b) f d;exact⟨e,rfl,⟨_,rfl⟩,[(.u64,a),(.u64,b),(.u64,c)],_,rfl,i,rfl,rfl⟩
theorem qAF{g}(f:aA P g=4):∀x y,sH x=some y->Yi P g ((enL wP).p x) (yN [.int .u64,.int .u64] y):=by rintro⟨a,b,c⟩y h;unfold sH at h;cases d:Nat.ble (Int.toNat c) 1 with|false=>simp only[d]at h;cases h|true=>simp only[d]at h;cases h;obtain⟨e,i⟩:=EF (x:=a) (y:=b) f d;exact⟨e,rfl,⟨_,rfl⟩,[(.u64,a),(.u64,b),(.u64,c)],_,rfl,i,rfl,rfl⟩
end
end Go.Sv
