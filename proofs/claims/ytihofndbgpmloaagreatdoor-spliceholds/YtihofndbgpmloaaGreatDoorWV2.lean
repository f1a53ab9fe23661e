/- Sums, signs, absolute values of fractions. Conditions: none. -/
import Derived.Test.YtihofndbgpmloaaGreatDoorNB
set_option linter.all false
namespace Go.Sv
def sgR(q:Rat):Int:=if q=0 then 0 else if q.num<0 then-1 else 1
theorem SM{N D:Int}(h:0<D):(Rat.divInt N D).num<0↔N<0:=by have e:=Rat.divInt_eq_div N D;(have h1:(Rat.divInt N D)*(D:Rat)=N:=by rw[e,Rat.div_mul_cancel];exact_mod_cast(by omega:D≠0));have h2:=Rat.num_nonneg (q:=Rat.divInt N D);(have h3:(0:Rat)<D:=by exact_mod_cast h);generalize Rat.divInt N D=q at*;constructor;{intro a;(have:¬(0<=q):=λb=>by have:=h2.2 b;omega);have:q<0:=Rat.not_le.1 this;have:=(Rat.mul_lt_mul_right h3).2 this;rw[h1,Rat.zero_mul]at this;exact_mod_cast this};intro a;false_or_by_contra;rename_i b;have b:=h2.1 (by omega);have:=Rat.mul_nonneg b (Rat.le_of_lt h3);rw[h1]at this;(have:(0:Int)<=N:=by exact_mod_cast this);omega
theorem Rw{N D:Int}(h:0<D):Rat.divInt N D=0↔N=0:=by constructor;{intro a;false_or_by_contra;rename_i b;exact lk b (by omega) a};rintro rfl;exact Rat.zero_divInt _
theorem qAX{N D:Int}(h:0<D):sgR (Rat.divInt N D)=N.sign:=by unfold sgR;have a:=Rw (N:=N) h;have b:=SM (N:=N) h;split;{rw[a.1 ‹_›];rfl};have:N≠0:=λe=>‹¬_› (a.2 e);split;{have:=b.1 ‹_›;rw[Int.sign_eq_neg_one_of_neg this]};have:¬N<0:=λe=>‹¬(_<_)› (b.2 e);rw[Int.sign_eq_one_of_pos (by omega)]
theorem IW{a b c e:Int}(hb:0<b)(he:0<e):Rat.divInt a b-Rat.divInt c e=Rat.divInt (a*e-c*b) (b*e):=Rat.divInt_sub_divInt _ _ (by omega) (by omega)
theorem qA0{a b c e:Int}(hb:0<b)(he:0<e):sgR (Rat.divInt a b-Rat.divInt c e)=(a*e-c*b).sign:=by rw[IW hb he,qAX (qMR hb he)]
end Go.Sv
