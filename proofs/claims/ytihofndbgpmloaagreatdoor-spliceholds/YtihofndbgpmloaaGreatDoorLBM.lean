/- Functions of the library by their contracts: strconv.FormatUint, strings.Repeat. Conditions: none. -/
import Derived.Test.YtihofndbgpmloaaGreatDoorLBL
import Derived.Test.YtihofndbgpmloaaGreatDoorSHM
import Derived.Test.YtihofndbgpmloaaGreatDoorFU
set_option linter.all false
set_option maxRecDepth 10000
namespace Go.Proofs.YtihofndbgpmloaaGreatDoor
open Go Go.Idl Go.Sv Go.Proofs Go.RowKit Go.Joins
noncomputable section
variable{T:zM}{IT:List (FuncId×yq)}
def inW(x:Int):=decide (0<=x)&&decide (x<18446744073709551616)
def gY(x:Int×Int):=cond (inW x.1&&inW x.2) (some (x.1*x.2/18446744073709551616,x.1*x.2%18446744073709551616)) none
def aN(x):=cond (inW x) (some (Lib.bitLen x.toNat:Int)) none
def pC(x:Int×Int):Option ByteArray:=cond (decide (0<=x.1)&&decide (x.1<18446744073709551616)&&decide (x.2=10)) (some ⟨(Lib.decDigits x.1.toNat).toArray⟩) none
def aO(x:ByteArray×Int):Option ByteArray:=cond (decide (0<=x.2)&&decide (x.2<1000)&&Nat.ble x.1.size 1000) (some ⟨(Lib.repeatL x.1.data.toList x.2.toNat).toArray⟩) none
theorem qBP(L:Lib Tryz.prog good (qn 10) T IT):Lib Tryz.prog good (qn 10) ((181,⟨[.int .u64,.int .i64],[.str],pC⟩)::T) IT:=by refine L.mG 181 _ _ _ (by kernel_rfl) λx y a=>?_;have⟨u,b⟩:=x;unfold pC at a;cases c:(decide (0<=u)&&decide (u<18446744073709551616)&&decide (b=10))with|false=>grind|true=>simp[c]at a;cases a;simp[decide_eq_true_eq]at c;obtain⟨⟨p,d⟩,rfl⟩:=c;obtain⟨u,rfl⟩:∃n:Nat,u=n:=⟨u.toNat,(qLL p).symm⟩;have d:(u:Int)<18446744073709551616:=d;refine⟨[.int .u64 u,.int .i64 10],.string _,rfl,rfl,rfl,λ_=>.base _ rfl,λf H w g l i=>?_⟩;refine(qAQ u w ?_).mono ?_;{by_cases q:u<100;{exact(qEd u q w).mono λe s⟨h,r⟩=>⟨h,0,#[],by rw[r];simp[World.drewN_zero]⟩};refine qEe u (by omega) (by omega) w ?_;have⟨t,A,z⟩:=Nf g l i;refine Eq.trans (congrArg (λo=>Option.bind o _) (?_:_=some 3)) ?_;{kernel_rfl};grind};rintro e s⟨rfl,k,m,rfl⟩;exact⟨rfl,rfl,rfl,rfl,by simp_all,λj v=>by show(w.heap++m)[j]?=_;grind⟩
theorem qBh(L:Lib Tryz.prog good (qn 10) T IT):Lib Tryz.prog good (qn 10) ((182,⟨[.str,.int .i64],[.str],aO⟩)::T) IT:=by refine L.mG 182 _ _ _ (by kernel_rfl) λx y b=>?_;have⟨s,c⟩:=x;unfold aO at b;cases a:(decide (0<=c)&&decide (c<1000)&&Nat.ble s.size 1000)with|false=>grind|true=>simp[a]at b;cases b;simp only[qJa,decide_eq_true_eq]at a;have⟨⟨g,d⟩,e⟩:=a;obtain⟨c,rfl⟩:∃n:Nat,c=n:=⟨c.toNat,(qLL g).symm⟩;have d:(c:Int)<1000:=d;refine⟨[.string s,.int .i64 c],.string _,rfl,rfl,rfl,λ_=>.base _ rfl,λf H w i j h=>?_⟩;exact Any.strings_Repeat Tryz.laysRepeat Tryz.extraRepeat s c w (by omega) (by have:=qMQ (qJg e) (show c<=1000 by omega);omega)
theorem qBx(L:Lib Tryz.prog good (qn 10) T IT):Lib Tryz.prog good (qn 10) ((236,⟨[.int .u64],[.int .i64],aN⟩)::T) IT:=by refine L.mG 236 _ _ _ (by kernel_rfl) λx y b=>?_;unfold aN at b;cases a:inW x with|false=>grind|true=>rw[a]at b;cases b;unfold inW at a;simp[qJa]at a;refine⟨[.int .u64 x],.int .i64 (Lib.bitLen x.toNat),rfl,rfl,rfl,λ_=>.base _ rfl,λf H w j d i=>?_⟩;exact(Any.bits_Len64 {Tryz.laysItoa with} x w a.1 (Int.le_of_lt_add_one a.2)).mono λe g⟨h,c⟩=>⟨h,c▸Below.refl _ _⟩
theorem qBn(L:Lib Tryz.prog good (qn 10) T IT):Lib Tryz.prog good (qn 10) ((198,⟨[.int .u64,.int .u64],[.int .u64,.int .u64],gY⟩)::T) IT:=by refine L.mG 198 _ _ _ (by kernel_rfl) λx y d=>?_;have⟨a,b⟩:=x;unfold gY at d;cases c:(inW a&&inW b)with|false=>grind|true=>simp[c]at d;cases d;unfold inW at c;simp[decide_eq_true_eq]at c;have⟨⟨l,q⟩,k,o⟩:=c;obtain⟨a,rfl⟩:∃n:Nat,a=n:=⟨a.toNat,(qLL l).symm⟩;obtain⟨b,rfl⟩:∃n:Nat,b=n:=⟨b.toNat,(qLL k).symm⟩;refine⟨[.int .u64 a,.int .u64 b],.tuple #[.int .u64 ((a*b/18446744073709551616)),.int .u64 ((a*b%18446744073709551616))],rfl,rfl,rfl,λf=>.tuple rfl λi v u p j=>?_,λf H w s t r=>((Any.bits_Mul64 {Tryz.laysRepeat with} a b (Int.ofNat_lt.1 q) (Int.ofNat_lt.1 o) w).mono λe z⟨h,m⟩=>⟨h,m▸Below.refl _ _⟩)⟩;rw[p]at j;cases j;have g:=qKT (show([.int .u64 ((a*b/18446744073709551616)),.int .u64 ((a*b%18446744073709551616))])[i]?=some v by grind);simp[or_false]at g;rcases g with rfl|rfl<;>exact .base _ rfl
end
end Go.Proofs.YtihofndbgpmloaaGreatDoor
