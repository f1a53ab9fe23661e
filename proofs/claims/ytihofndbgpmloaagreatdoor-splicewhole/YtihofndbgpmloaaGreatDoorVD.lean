/- Chapter 8: numbers that are given, strengths. Conditions: none. -/
import Derived.Test.YtihofndbgpmloaaGreatDoorP8N
import Derived.Test.YtihofndbgpmloaaGreatDoorWC2
import Derived.Test.YtihofndbgpmloaaGreatDoorNB
import Derived.Test.YtihofndbgpmloaaGreatDoorAWN
set_option linter.all false
set_option maxRecDepth 10000
set_option maxHeartbeats 100000000
namespace Go.Proofs.YtihofndbgpmloaaGreatDoor
open Go Go.Idl Go.Sv Go.Proofs
noncomputable section
theorem qCG(b:Bool)(e:Int):kZ (b,e)=some (if b then e else 0):=by cases b<;>rfl
def pr(b:Rat)(q:Nat->Rat):Nat->Rat|0=>b|k+1=>pr b q k*q k
theorem upp{n a b:Nat}(h:n<10^a)(hk:a<=b):n<10^b:=qJM h (qKU (by decide) hk)
end
end Go.Proofs.YtihofndbgpmloaaGreatDoor
set_option maxRecDepth 10000
set_option maxHeartbeats 100000000
namespace Go.Proofs.YtihofndbgpmloaaGreatDoor
open Go Go.Idl Go.Sv Go.Proofs
noncomputable section
theorem qCJ{q:Rat}(h1:q.num.natAbs<10^100)(h2:q.den<10^100):Sm q:=by(have b:((10^100:Nat):Int)<=KH:=by unfold KH;decide+kernel);exact⟨by omega,by omega⟩
theorem qCK{q:Rat}(h:¬q.num<0):0<=q:=Rat.num_nonneg.1 (by omega)
end
end Go.Proofs.YtihofndbgpmloaaGreatDoor
set_option maxRecDepth 10000
set_option maxHeartbeats 100000000
namespace Go.Proofs.YtihofndbgpmloaaGreatDoor
open Go Go.Idl Go.Sv Go.Proofs
noncomputable section
def Bd(q:Rat)(A:Nat):Prop:=q.num.natAbs<10^A/\q.den<10^A
theorem Bd.mono{q A B}(h:Bd q A)(k:A<=B):Bd q B:=⟨upp h.1 k,upp h.2 k⟩
theorem Bd.int{n:Int}(h:n.natAbs<10^6):Bd (n:Rat) 6:=⟨by simpa using h,by simp⟩
theorem Bd.sm{q A}(h:Bd q A)(k:A<=100):Sm q:=qCJ (upp h.1 k) (upp h.2 k)
theorem Bd.sk{q A}(h:Bd q A)(k:A<=500):Sk q:=by(have b:((10^500:Nat):Int)<=KS:=by unfold KS;decide+kernel);have h1:=upp h.1 k;have h2:=upp h.2 k;exact⟨by omega,by omega⟩
theorem Bd.ck{q A}(h:Bd q A)(k:A<=200):H6 (rt q)=some 0:=qAg (upp h.1 k) (upp h.2 k)
theorem Wu{n:Int}(h:-9223372036854775808<=n)(k:n<9223372036854775808):OkT (H30 n) (Rq · (n:Rat)):=⟨_,rfl,Rq.int (Ri.small h k)⟩
def fnz:List Int->Int|[]=>0|x::l=>if x≠0 then x else fnz l
theorem EZ:∀{l:List Int}{k:Nat},k<l.length->l.getD k 0≠0->(∀j,j<k->¬l.getD j 0≠0)->fnz l=l.getD k 0|x::l,0,_,h,_=>by unfold fnz;rw[if_pos (by simpa using h)];rfl|x::l,k+1,a,h,m=>by unfold fnz;rw[if_neg (by simpa using m 0 (by omega)),EZ (k:=k) (by simpa using a) (by simpa using h) λj hj=>by simpa using m (j+1) (by omega)];rfl
theorem ED:∀{l:List Int},(∀j,j<l.length->¬l.getD j 0≠0)->fnz l=0|[],_=>rfl|x::l,m=>by unfold fnz;rw[if_neg (by simpa using m 0 (by simp))];exact ED λj hj=>by simpa using m (j+1) (by simpa using hj)
theorem qAt{l:List Int}(hl:l.length<1000):yN l=some (fnz l):=by refine OkT.eq ?_;refine bV l.length (λk=>l.getD k 0≠0) (λk=>.inr (.inl (l.getD k 0))) (.inl (l.length:Int)) ?_ (qa (by simp) (qC rfl)) ?_ ?_;{intro k a;refine qX (decide_eq_true (by omega)) (qQ k rfl a (qR a ?_));rw[getD_lt a];refine qM (λc=>qC (.inl ⟨by simpa using c,rfl⟩)) λc=>qC (.inr ⟨by simpa using c,?_⟩);rw[wI (by omega) (by omega)];rfl};{intro k a h d;exact qC (EZ a h d).symm};intro h;exact qC (ED h).symm
end
end Go.Proofs.YtihofndbgpmloaaGreatDoor
