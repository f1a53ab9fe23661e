/- Chapter 8: numbers that are given, strengths. Conditions: none. -/
import Derived.Test.YtihofndbgpmloaaGreatDoorP8N
import Derived.Test.YtihofndbgpmloaaGreatDoorWC2
import Derived.Test.YtihofndbgpmloaaGreatDoorNB
import Derived.Test.YtihofndbgpmloaaGreatDoorAWN
set_option linter.all false
set_option maxRecDepth 10000
set_option maxHeartbeats 100000000
namespace Go.Proofs.YtihofndbgpmloaaGreatDoor
open Go Go.Idl Go.Sv Go.Proofs
noncomputable section
theorem h39{x:(Int×List Int)×Int×List Int}{q:Rat}(h:Rq x q):H39 x=some (sg3 q.num):=by refine OkT.eq ?_;show OkT (G39 x) _;unfold G39;exact qB (by rw[sgX,h.n.sg])
theorem Yc(b:Bool)(e:Int):kY (b,e)=some (if b then e else 0):=by cases b<;>rfl
theorem Wj{x y:(Int×List Int)×Int×List Int}{a b:Rat}(h:Rq x a)(k:Rq y b)(ha:Sm a)(hb:Sm b):pL (x,y)=some (zw (a.num*b.den) (b.num*a.den)):=by refine OkT.eq ?_;show OkT (GD x y) _;unfold GD;have m1:=gK (x:=a.num) (y:=(b.den:Int)) ha.n hb.d;have m2:=gK (x:=b.num) (y:=(a.den:Int)) hb.n ha.d;have k1:=yF ha.n;have k2:=yF hb.n;have k3:=yF ha.d;have k4:=yF hb.d;refine qO (h97 h.n k.d k1 (by omega)) λu hu=>qO (h97 k.n h.d k2 (by omega)) λv hv=>qF (h93 hu hv (by omega) (by omega)) (qB rfl)
def El(s:Bool)(x:ByteArray)(c:Int)(q:Rat):Prop:=(c≠0/\H6 x=some c/\H29 x=some c)\/(H6 x=some 0/\H29 x=some 0/\x=rt q/\q.num.natAbs<10^40/\q.den<10^38/\c=if q.num<0\/s=true/\(q.den:Int)<q.num then 3 else 0)
theorem Iw{g:Bool}{r:List UInt8}(hl:r.length<=40){c:Int}(hs:((∀x∈r,x≠47)->cdA g r c)/\∀a b,r=a++47::b->(∀x∈a,x≠47)->cdB g a b c):(c=1)\/(c=0/\∃q:Rat,q.num.natAbs<10^40/\q.den<10^38/\rqL q=sg g r):=by(have bd:∀{a:List UInt8},okD a->a.length<=40->dv a<10^40:=fun{a}h hl=>by have h1:=bf h.1;have h2:=qK5 (show 0<10 by decide) hl;omega);rcases Zs r with h|⟨a,b,rfl,ha⟩;{rcases hs.1 h with⟨h1,h2⟩|⟨_,h2⟩;{obtain⟨q,q1,q2,q3⟩:=qAV h1;refine .inr ⟨h2,q,?_,by rw[q2];decide,q3⟩;have:=(Zy h1).2;rw[q1,this];exact bd h1.1 hl};exact .inl h2};(have la:a.length<=40:=by simp at hl;omega);rcases hs.2 a b rfl ha with⟨⟨h1,h2,h3⟩,h4⟩|⟨_,h4⟩;{have la1:0<a.length:=qKi.2 h1.1.2.1;(have lb:b.length<=38:=by simp at hl;omega);obtain⟨q,q1,q2,_,q3⟩:=IZ h1 h2 h3;refine .inr ⟨h4,q,?_,?_,q3⟩;{have:=(Zy h1).2;rw[q1,this];exact bd h1.1 la};rw[q2];have h1:=bf h2.1.1;have h2:=qK5 (show 0<10 by decide) lb;omega};exact .inl h4
theorem qCx(s:Bool){x:ByteArray}(h:x.size<=40):∃p:Int×Rat,El s x p.1 p.2:=by obtain⟨g,r,e,o⟩:=Go.Sv.shape (bl x);have e:x=tx (sg g r):=congrArg tx e;(have v:r.length<=40:=by have E:=W6 g r;(have:x.size=(sg g r).length:=by rw[e];rfl);omega);obtain⟨u,l,t⟩:=h6 o (show r.length<=600 by omega);obtain⟨w,i,m⟩:=h29 o (show r.length<=500 by omega);(have A:w=u:=by rcases Zs r with h|⟨a,b,h,n⟩;{exact qB2 (m.1 h) (t.1 h)};exact qCH (m.2 a b h n) (t.2 a b h n));subst A;rw[<-e]at l i;rcases Iw v t with rfl|⟨rfl,q,q1,q2,q3⟩;{exact⟨(1,0),.inl ⟨by decide,l,i⟩⟩};exact⟨(if q.num<0\/s=true/\(q.den:Int)<q.num then 3 else 0,q),.inr ⟨l,i,by rw[e];exact(congrArg tx q3).symm,q1,q2,rfl⟩⟩
theorem uJ{q:Rat}(h1:q.num.natAbs<10^40)(h2:q.den<10^38):Sm q:=by(have a:(10^40:Nat)<2^140:=by decide);(have b:(2^140:Int)<=KH:=by unfold KH;decide+kernel);exact⟨by omega,by omega⟩
theorem NM{q:Rat}(h1:q.num.natAbs<10^40)(h2:q.den<10^38):(rqL q).length<=8000:=by obtain⟨r,e,h,l,s⟩:=Jg q;have l1:(dec q.num.natAbs).length<=40:=we (k:=39) h1;have l2:(dec q.den).length<=38:=we (k:=37) h2;rw[e];cases decide (q.num<0)<;>simp[sg]<;>omega
theorem qBO(n:Int):decide (sg3 n<0)=decide (n<0):=by unfold sg3;grind
theorem qBe:Rq ((1,[]),1,[]) (1:Rat):=by have:=Rq.int (x:=(1,[])) (n:=1) (Ri.small (by decide) (by decide));exact this
theorem qCj{q:Rat}(h2:q.num.natAbs<10^40)(h3:q.den<10^38):Xo (rt q)=some (if q.num<0\/true=true/\(q.den:Int)<q.num then 3 else 0):=by refine OkT.eq ?_;show OkT (GI (rt q)) _;unfold GI;refine qO (h31 (uJ h2 h3) (NM h2 h3)) λy hy=>qF (h39 hy) ?_;rw[xX,qBO];by_cases hn:q.num<0;{rw[decide_eq_true hn,if_pos (.inl hn)];exact qW rfl (qB rfl)};rw[decide_eq_false hn];have e:=Wj hy qBe (uJ h2 h3) (uJ (q:=1) (by decide) (by decide));refine qU rfl (qF (a:=((1,[]),1,[])) rfl (qF e (qF (Yc _ _) (qB ?_))));have e1:(1:Rat).num=1:=rfl;have e2:((1:Rat).den:Int)=1:=rfl;rw[e1,e2];unfold zw;grind
theorem iz{q:Rat}(hq:Sm q):vk (rt q,(⟨#[49]⟩:ByteArray))=some (q.num-q.den).sign:=by(have one:(⟨#[49]⟩:ByteArray)=rt ((1:Int):Rat):=by rw[YR,bG (by decide)];show _=tx (dec 1);rw[dec_lt (by decide)];rfl);rw[one,XE hq (qBf (by decide))];(have d0:(0:Int)<q.den:=by have:=q.den_pos;omega);have:=qA0 (a:=q.num) (b:=q.den) (c:=1) (e:=1) d0 (by decide);rw[Rat.num_divInt_den,Int.mul_one,qLz]at this;have e1:Rat.divInt 1 1=((1:Int):Rat):=rfl;rw[e1]at this;rw[this]
def pr(b:Rat)(q:Nat->Rat):Nat->Rat|0=>b|k+1=>pr b q k*q k
theorem upp{n a b:Nat}(h:n<10^a)(hk:a<=b):n<10^b:=qJf h (qK5 (by decide) hk)
end
end Go.Proofs.YtihofndbgpmloaaGreatDoor
set_option maxRecDepth 10000
set_option maxHeartbeats 100000000
namespace Go.Proofs.YtihofndbgpmloaaGreatDoor
open Go Go.Idl Go.Sv Go.Proofs
noncomputable section
theorem qCZ{q:Rat}(h1:q.num.natAbs<10^100)(h2:q.den<10^100):Sm q:=by(have b:((10^100:Nat):Int)<=KH:=by unfold KH;decide+kernel);exact⟨by omega,by omega⟩
theorem qC3{q:Rat}(h1:q.num.natAbs<10^100)(h2:q.den<10^100):(rqL q).length<=8000:=by obtain⟨r,e,h,l,s⟩:=Jg q;have l1:(dec q.num.natAbs).length<=100:=we (k:=99) h1;have l2:(dec q.den).length<=100:=we (k:=99) h2;rw[e];cases decide (q.num<0)<;>simp[sg]<;>omega
theorem qB5{q:Rat}(h:0<=q):¬q.num<0:=by have:=Rat.num_nonneg.2 h;omega
theorem qCQ{q:Rat}(h:¬q.num<0):0<=q:=Rat.num_nonneg.1 (by omega)
theorem qCC{q:Rat}(h:q<=0):¬0<sgR q:=by unfold sgR;by_cases z:q=0;{rw[if_pos z];decide};rw[if_neg z];by_cases n:q.num<0;{rw[if_pos n];decide};exact absurd (Rat.le_antisymm h (qCQ n)) z
end
end Go.Proofs.YtihofndbgpmloaaGreatDoor
set_option maxRecDepth 10000
set_option maxHeartbeats 100000000
namespace Go.Proofs.YtihofndbgpmloaaGreatDoor
open Go Go.Idl Go.Sv Go.Proofs
noncomputable section
def Bd(q:Rat)(A:Nat):Prop:=q.num.natAbs<10^A/\q.den<10^A
theorem Bd.mono{q A B}(h:Bd q A)(k:A<=B):Bd q B:=⟨upp h.1 k,upp h.2 k⟩
theorem Bd.int{n:Int}(h:n.natAbs<10^6):Bd (n:Rat) 6:=⟨by simpa using h,by simp⟩
theorem Bd.sm{q A}(h:Bd q A)(k:A<=100):Sm q:=qCZ (upp h.1 k) (upp h.2 k)
theorem Bd.sk{q A}(h:Bd q A)(k:A<=500):Sk q:=by(have b:((10^500:Nat):Int)<=KS:=by unfold KS;decide+kernel);have h1:=upp h.1 k;have h2:=upp h.2 k;exact⟨by omega,by omega⟩
theorem Bd.rd{q A}(h:Bd q A)(k:A<=100):OkT (H31 (rt q)) (Rq · q):=h31 (h.sm k) (qC3 (upp h.1 k) (upp h.2 k))
theorem Bd.cn{q A}(h:Bd q A)(k:A<=200):H29 (rt q)=some 0:=qB8 (upp h.1 k) (upp h.2 k)
theorem U0{n:Int}(h:-9223372036854775808<=n)(k:n<9223372036854775808):OkT (H30 n) (Rq · (n:Rat)):=⟨_,rfl,Rq.int (Ri.small h k)⟩
def fnz:List Int->Int|[]=>0|x::l=>if x≠0 then x else fnz l
theorem Er:∀{l:List Int}{k:Nat},k<l.length->l.getD k 0≠0->(∀j,j<k->¬l.getD j 0≠0)->fnz l=l.getD k 0|x::l,0,_,h,_=>by unfold fnz;rw[if_pos (by simpa using h)];rfl|x::l,k+1,a,h,m=>by unfold fnz;rw[if_neg (by simpa using m 0 (by omega)),Er (k:=k) (by simpa using a) (by simpa using h) λj hj=>by simpa using m (j+1) (by omega)];rfl
theorem EZ:∀{l:List Int},(∀j,j<l.length->¬l.getD j 0≠0)->fnz l=0|[],_=>rfl|x::l,m=>by unfold fnz;rw[if_neg (by simpa using m 0 (by simp))];exact EZ λj hj=>by simpa using m (j+1) (by simpa using hj)
theorem bP{l:List Int}(hl:l.length<1000):yR l=some (fnz l):=by refine OkT.eq ?_;refine dj l.length (λk=>l.getD k 0≠0) (λk=>.inr (.inl (l.getD k 0))) (.inl (l.length:Int)) ?_ (qW (by simp) (qB rfl)) ?_ ?_;{intro k a;refine qU (decide_eq_true (by omega)) (qP k rfl a (qQ a ?_));rw[getD_lt a];refine qJ (λc=>qB (.inl ⟨by simpa using c,rfl⟩)) λc=>qB (.inr ⟨by simpa using c,?_⟩);rw[wI (by omega) (by omega)];rfl};{intro k a h d;exact qB (Er a h d).symm};intro h;exact qB (EZ h).symm
end
end Go.Proofs.YtihofndbgpmloaaGreatDoor
