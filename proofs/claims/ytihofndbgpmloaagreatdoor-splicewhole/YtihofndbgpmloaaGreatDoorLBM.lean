/- Functions of the library by their contracts: strconv.FormatUint, strings.Repeat. Conditions: none. -/
import Derived.Test.YtihofndbgpmloaaGreatDoorLBL
import Derived.Test.YtihofndbgpmloaaGreatDoorSHM
import Derived.Test.YtihofndbgpmloaaGreatDoorFU
set_option linter.all false
set_option maxRecDepth 10000
namespace Go.Proofs.YtihofndbgpmloaaGreatDoor
open Go Go.Idl Go.Sv Go.Proofs Go.RowKit Go.Joins
noncomputable section
variable{T:zI}{IT:List (FuncId×yq)}
def inW(x:Int):=decide (0<=x)&&decide (x<18446744073709551616)
def gn(x:Int×Int):=cond (inW x.1&&inW x.2) (some (x.1*x.2/18446744073709551616,x.1*x.2%18446744073709551616)) none
def aU(x):=cond (inW x) (some (Lib.bitLen x.toNat:Int)) none
def pA(x:Int×Int):Option ByteArray:=cond (decide (0<=x.1)&&decide (x.1<18446744073709551616)&&decide (x.2=10)) (some ⟨(Lib.decDigits x.1.toNat).toArray⟩) none
def aV(x:ByteArray×Int):Option ByteArray:=cond (decide (0<=x.2)&&decide (x.2<1000)&&Nat.ble x.1.size 1000) (some ⟨(Lib.repeatL x.1.data.toList x.2.toNat).toArray⟩) none
theorem qB2(L:Lib Tryz.prog good (qk 10) T IT):Lib Tryz.prog good (qk 10) ((181,⟨[.int .u64,.int .i64],[.str],pA⟩)::T) IT:=by refine L.mF 181 _ _ _ (by kernel_rfl) λx y a=>?_;have⟨u,b⟩:=x;unfold pA at a;cases c:(decide (0<=u)&&decide (u<18446744073709551616)&&decide (b=10))with|false=>grind|true=>simp[c]at a;cases a;simp[decide_eq_true_eq]at c;obtain⟨⟨p,d⟩,rfl⟩:=c;obtain⟨u,rfl⟩:∃n:Nat,u=n:=⟨u.toNat,(qKg p).symm⟩;have d:(u:Int)<18446744073709551616:=d;refine⟨[.int .u64 u,.int .i64 10],.string _,rfl,rfl,rfl,λ_=>.base _ rfl,λf H w g l i=>?_⟩;refine(Iz u w ?_).mono ?_;{by_cases q:u<100;{exact(qEB u q w).mono λe s⟨h,r⟩=>⟨h,0,#[],by rw[r];simp[World.drewN_zero]⟩};refine qEC u (by omega) (by omega) w ?_;have⟨t,A,z⟩:=Ms g l i;refine Eq.trans (congrArg (λo=>Option.bind o _) (?_:_=some 3)) ?_;{kernel_rfl};grind};rintro e s⟨rfl,k,m,rfl⟩;exact⟨rfl,rfl,rfl,rfl,by simp_all,λj v=>by show(w.heap++m)[j]?=_;grind⟩
theorem qBF(L:Lib Tryz.prog good (qk 10) T IT):Lib Tryz.prog good (qk 10) ((182,⟨[.str,.int .i64],[.str],aV⟩)::T) IT:=by refine L.mF 182 _ _ _ (by kernel_rfl) λx y b=>?_;have⟨s,c⟩:=x;unfold aV at b;cases a:(decide (0<=c)&&decide (c<1000)&&Nat.ble s.size 1000)with|false=>grind|true=>simp[a]at b;cases b;simp only[qJI,decide_eq_true_eq]at a;have⟨⟨g,d⟩,e⟩:=a;obtain⟨c,rfl⟩:∃n:Nat,c=n:=⟨c.toNat,(qKg g).symm⟩;have d:(c:Int)<1000:=d;refine⟨[.string s,.int .i64 c],.string _,rfl,rfl,rfl,λ_=>.base _ rfl,λf H w i j h=>?_⟩;exact Any.strings_Repeat Tryz.laysRepeat Tryz.extraRepeat s c w (by omega) (by have:=qL0 (qJO e) (show c<=1000 by omega);omega)
theorem qB5(L:Lib Tryz.prog good (qk 10) T IT):Lib Tryz.prog good (qk 10) ((236,⟨[.int .u64],[.int .i64],aU⟩)::T) IT:=by refine L.mF 236 _ _ _ (by kernel_rfl) λx y b=>?_;unfold aU at b;cases a:inW x with|false=>grind|true=>rw[a]at b;cases b;unfold inW at a;simp[qJI]at a;refine⟨[.int .u64 x],.int .i64 (Lib.bitLen x.toNat),rfl,rfl,rfl,λ_=>.base _ rfl,λf H w j d i=>?_⟩;exact(Any.bits_Len64 {Tryz.laysItoa with} x w a.1 (Int.le_of_lt_add_one a.2)).mono λe g⟨h,c⟩=>⟨h,c▸Below.refl _ _⟩
theorem qBM(L:Lib Tryz.prog good (qk 10) T IT):Lib Tryz.prog good (qk 10) ((198,⟨[.int .u64,.int .u64],[.int .u64,.int .u64],gn⟩)::T) IT:=by refine L.mF 198 _ _ _ (by kernel_rfl) λx y d=>?_;have⟨a,b⟩:=x;unfold gn at d;cases c:(inW a&&inW b)with|false=>grind|true=>simp[c]at d;cases d;unfold inW at c;simp[decide_eq_true_eq]at c;have⟨⟨l,q⟩,k,o⟩:=c;obtain⟨a,rfl⟩:∃n:Nat,a=n:=⟨a.toNat,(qKg l).symm⟩;obtain⟨b,rfl⟩:∃n:Nat,b=n:=⟨b.toNat,(qKg k).symm⟩;refine⟨[.int .u64 a,.int .u64 b],.tuple #[.int .u64 ((a*b/18446744073709551616)),.int .u64 ((a*b%18446744073709551616))],rfl,rfl,rfl,λf=>.tuple rfl λi v u p j=>?_,λf H w s t r=>((Any.bits_Mul64 {Tryz.laysRepeat with} a b (Int.ofNat_lt.1 q) (Int.ofNat_lt.1 o) w).mono λe z⟨h,m⟩=>⟨h,m▸Below.refl _ _⟩)⟩;rw[p]at j;cases j;have g:=qJs (show([.int .u64 ((a*b/18446744073709551616)),.int .u64 ((a*b%18446744073709551616))])[i]?=some v by grind);simp[or_false]at g;rcases g with rfl|rfl<;>exact .base _ rfl
end
end Go.Proofs.YtihofndbgpmloaaGreatDoor
