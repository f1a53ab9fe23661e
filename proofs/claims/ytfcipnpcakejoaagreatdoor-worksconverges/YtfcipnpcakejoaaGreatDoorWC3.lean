/- WorksConverges: what the convergents are, plainly, and the law. Conditions: none. -/
import Derived.Test.YtfcipnpcakejoaaGreatDoorWC2
import Derived.Test.YtfcipnpcakejoaaGreatDoorAWN
set_option linter.all false
set_option maxRecDepth 10000
set_option maxHeartbeats 100000000
namespace Go.Proofs.YtfcipnpcakejoaaGreatDoor
open Go Go.Idl Go.Sv Go.Proofs
noncomputable section
structure cvT(n d:Int):Prop where
 n:(n.natAbs:Int)<1000000
 d0:0<d
 d:d<1000000
def cc(n d:Int)(i:Nat):Rat:=Rat.divInt (cvP n d i).2 (cvQ n d i).2
variable{n d:Int}
structure cvF(n d:Int)(i:Nat):Prop where
 q0:1<=(cvQ n d i).2
 q1:(cvQ n d i).2<1000000
 p:((cvP n d i).2.natAbs:Int)<=1000000
 t0:0<=(cvS n d i).2
 t1:(cvS n d i).2<1000000
theorem cvT.f(T:cvT n d){i:Nat}(hi:i≠0)(h:cvG n d i):cvF n d i:=by have a:=(um h).2.2 hi;have b:=Jw T.d0 h hi;have c:=Dj T.d0 h;have e:=V1 h T.d0;(have g:0<=(cvS n d i).2:=by obtain⟨j,rfl⟩:∃j,i=j+1:=⟨i-1,by omega⟩;exact(uy (h j (by omega))).1);have:=T.n;have:=T.d;exact⟨a,by omega,by omega,g,by omega⟩
theorem YW{x y A B:Int}(hx:(x.natAbs:Int)<=A)(hy:(y.natAbs:Int)<=B):((x*y).natAbs:Int)<=A*B:=by rw[qID,qHi];exact qHQ hx hy (by omega) (by omega)
theorem Za{a b c e:Int}(ha:(a.natAbs:Int)<2^110)(b0:0<b)(hb:b<2^110)(hc:(c.natAbs:Int)<2^110)(e0:0<e)(he:e<2^110):vg (rt (Rat.divInt a b),rt (Rat.divInt c e))=some (a*e-c*b).sign:=by rw[Es (wq ha b0 hb) (wq hc e0 he),La b0 e0]
theorem eo(a:Int):Rat.divInt a 1=(a:Rat):=by have:=Rat.div_mul_cancel (a:=(a:Rat)) (b:=1) (by decide);rw[Rat.mul_one]at this;rw[Rat.divInt_eq_div];exact this
theorem ij{a b:Int}(ha:(a.natAbs:Int)<2^110)(hb:(b.natAbs:Int)<2^110):vg (rt (a:Rat),rt (b:Rat))=some (a-b).sign:=by have:=Za ha (b:=1) (by decide) (by decide) hb (e:=1) (by decide) (by decide);rw[eo,eo,qJL,qJL]at this;exact this
theorem fM(T:cvT n d){i:Nat}(F:cvF n d i):0<(cvQ n d i).2*d/\(cvQ n d i).2*d<1000000000000:=by have h1:=F.q0;have h2:=YW (x:=(cvQ n d i).2) (y:=d) (A:=999999) (B:=999999) (by have:=F.q1;omega) (by have:=T.d;have:=T.d0;omega);have h3:=qI0 (show 0<(cvQ n d i).2 by omega) T.d0;omega
theorem ic{i:Nat}(F:cvF n d i):((cvD i*(cvS n d i).2).natAbs:Int)=(cvS n d i).2:=by have:=F.t0;rcases rE i with h|h<;>rw[h]<;>omega
theorem Vp{q:Rat}(T:cvT q.num q.den){i:Nat}(F:cvF q.num q.den i):H48 (rt (cc q.num q.den i),rt q)=some (rt (Rat.divInt (cvD i*(cvS q.num q.den i).2) ((cvQ q.num q.den i).2*q.den))):=by have Z:Sm q:=⟨v_ (by have:=T.n;omega),v_ (by have:=T.d;omega)⟩;have Y:Sm (cc q.num q.den i):=wq (by have:=F.p;omega) (by have:=F.q0;omega) (by have:=F.q1;omega);rw[h48 Y Z];(have e:cc q.num q.den i-q=Rat.divInt (cvD i*(cvS q.num q.den i).2) ((cvQ q.num q.den i).2*q.den):=by have:=QH (a:=(cvP q.num q.den i).2) (c:=q.num) (show 0<(cvQ q.num q.den i).2 by have:=F.q0;omega) T.d0;rw[Rat.num_divInt_den q,qGn q.num,rz]at this;exact this);exact congrArg (λz=>some (rt z)) e
theorem Dt{i:Nat}(T:cvT n d)(F:cvF n d i):aK (rt (Rat.divInt (cvD i*(cvS n d i).2) ((cvQ n d i).2*d)))=some (rt (Rat.divInt (cvS n d i).2 ((cvQ n d i).2*d))):=by rw[WL,Cg (fM T F).1,ic F]
theorem iU{i:Nat}(F:cvF n d i):((cc n d i).den:Int)=(cvQ n d i).2:=by have e:=ZM (n:=n) (d:=d) i;have q0:=F.q0;unfold cc;obtain⟨Q,hQ⟩:∃Q:Nat,(cvQ n d i).2=Q:=⟨(cvQ n d i).2.toNat,by omega⟩;(have g:Int.gcd (cvP n d i).2 (cvQ n d i).2=1:=by have h1:=Int.gcd_dvd_left (cvP n d i).2 (cvQ n d i).2;have h2:=qJS (cvP n d i).2 (cvQ n d i).2;(have h3:(Int.gcd (cvP n d i).2 (cvQ n d i).2:Int)∣cvD i:=by rw[<-e];exact Int.dvd_sub (Int.dvd_trans h1 (Int.dvd_mul_right _ _)) (Int.dvd_trans h2 (Int.dvd_mul_left _ _)));(have h4:(Int.gcd (cvP n d i).2 (cvQ n d i).2:Int)∣1:=by rcases rE i with h|h<;>rw[h]at h3;{exact h3};exact Int.dvd_neg.1 h3);have:=Int.natAbs_dvd_natAbs.2 h4;exact Nat.dvd_one.1 this);rw[hQ]at g⊢;rw[(tF (n:=(cvP n d i).2) (d:=Q) (by omega)).2,g,Nat.div_one]
theorem rL{i:Nat}(F:cvF n d i):aJ (rt (cc n d i))=some (rt ((cvQ n d i).2:Rat)):=by have Y:Sm (cc n d i):=wq (by have:=F.p;omega) (by have:=F.q0;omega) (by have:=F.q1;omega);rw[EU Y];have:=iU F;exact congrArg (λz:Int=>some (rt (z:Rat))) this
theorem Dh:(⟨#[49]⟩:ByteArray)=rt ((1:Int):Rat):=by rw[wj,vI (by decide)];show _=tx (dec 1);rw[dec_lt (by decide)];rfl
theorem ig{k i:Nat}(h:i<(cvL n d k).length):(cvL n d k)[i]=rt (cc n d (i+1)):=by simp[cvL,cc]
theorem ib{q:Rat}{k:Nat}(T:cvT q.num q.den)(k0:k≠0)(hk:cvK q.num q.den k):cc q.num q.den k=q:=by have F:=T.f k0 hk.1;have h:=rz (n:=q.num) (d:=q.den) k;rw[hk.2,Int.mul_zero]at h;have a:=F.q0;have b:=T.d0;(have:Rat.divInt (cvP q.num q.den k).2 (cvQ q.num q.den k).2=Rat.divInt q.num q.den:=by refine(Rat.divInt_eq_divInt_iff (by omega) (by omega)).2 ?_;rw[qGn q.num];omega);rw[Rat.num_divInt_den q]at this;exact this
theorem JU{a:Int}:a.sign<0↔a<0:=Int.sign_neg_iff
theorem near(T:cvT n d){i:Nat}(hi:i≠0)(h:cvG n d (i+1)):(cvS n d (i+1)).2*((cvQ n d i).2*d)-(cvS n d i).2*((cvQ n d (i+1)).2*d)<0:=by have F:=T.f hi (h.mono (by omega));have G:=T.f (by omega) h;have s:=uy (h i (by omega));have q:=(DI (by omega) h).1;have a:=fM T F;have b:=fM T G;have c1:(cvS n d (i+1)).2*((cvQ n d i).2*d)<=(cvS n d (i+1)).2*((cvQ n d (i+1)).2*d):=qG6 (qG5 q (qG9 T.d0)) s.1;have c2:(cvS n d (i+1)).2*((cvQ n d (i+1)).2*d)<(cvS n d i).2*((cvQ n d (i+1)).2*d):=qHU s.2 b.1;omega
theorem Lh(T:cvT n d){i:Nat}(hi:2<=i)(h:cvG n d i){m k:Int}(k0:0<k)(hk:k<=(cvQ n d i).2):¬(((m*d-n*k).natAbs:Int)*((cvQ n d i).2*d)-(cvS n d i).2*(k*d)).sign<0:=by rw[JU];have b:=Iw hi h (m:=m) k0 hk;have F:=T.f (by omega) h;have a:=fM T F;have kd:=qI0 k0 T.d0;have c1:k*d<=(cvQ n d i).2*d:=qG5 hk (qG9 T.d0);have c2:(cvS n d i).2*(k*d)<=(cvS n d i).2*((cvQ n d i).2*d):=qG6 c1 F.t0;have c3:(cvS n d i).2*((cvQ n d i).2*d)<=((m*d-n*k).natAbs:Int)*((cvQ n d i).2*d):=qG5 b (qG9 a.1);omega
end
end Go.Proofs.YtfcipnpcakejoaaGreatDoor
