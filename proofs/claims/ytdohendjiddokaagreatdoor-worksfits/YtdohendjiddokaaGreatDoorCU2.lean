/- Plain laws of chapter 9: ways of cutting by the program, and the bound. Conditions: none. -/
import Derived.Test.YtdohendjiddokaaGreatDoorCU1
set_option linter.all false
set_option maxRecDepth 10000
set_option maxHeartbeats 100000000
namespace Go.Proofs.YtdohendjiddokaaGreatDoor
open Go Go.Idl Go.Sv Go.Proofs
def us (c:Int)(l:List Int):List Int:=l.map fun x=>c - x
theorem qI7 (c:Int)(l:List Int):(us c l).length=l.length:=zP5 ..
theorem zCK {c:Int}{l:List Int}{i:Nat}(h:i < l.length):(us c l)[i]?=some (c - l.getD i 0):=by
 unfold us;rw[zQD,zP2 h,gDE h];rfl
theorem zCN (c:Int)(l:List Int)(i:Nat)(x:Int):(us c l).set i (c - x)=us c (l.set i x):=by
 unfold us;rw[zTT]
theorem zC7 (c:Int)(l:List Int)(x:Int):us c l++[c - x]=us c (l++[x]):=by
 unfold us;rw[zRE];rfl
def mU (c:Int)(l:List Int):List (Value×Value):=eM (eU 0 (us c l))
theorem zBS (c:Int)(l:List Int):(mU c l).length=l.length:=by
 unfold mU eM;rw[zP5,q48,qI7]
theorem qX5 {c:Int}{l:List Int}{K:Nat}(h:K < l.length):qGA (K:Int) (eU 0 (us c l))=some K:=by
 have:=q5D (us c l) 0 K (by rw[qI7];exact h);rw[zQI] at this;exact this
theorem qU5 {c:Int}{l:List Int}{K:Nat}(h:K < l.length):q0Q Tryz.prog 3 (.int .i64 (K:Int)) (mU c l)=some true:=by
 unfold mU;rw[q54,qX5 h];rfl
theorem zER {c:Int}{l:List Int}:q0Q Tryz.prog 3 (.int .i64 (l.length:Int)) (mU c l)=some false:=by
 unfold mU;rw[q54,q7Y _ _ _ (.inr (by rw[qI7];exact Int.le_of_eq (Int.zero_add _)))];rfl
theorem qXH {c:Int}{l:List Int}{K:Nat}(h:K < l.length):q0N Tryz.prog 3 (.int .i64) (.int .i64 (K:Int)) (mU c l)=some (c - l.getD K 0):=by
 unfold mU;have e:=q5E (us c l) 0 K;rw[zCK h,zQI] at e;rw[zCX (qX5 h) e];rfl
theorem zCU {c:Int}{l:List Int}{K:Nat}{x y:Int}(h:K < l.length)(hy:y=c - x):qZ9 Tryz.prog 3 (.int .i64 (K:Int)) (.int .i64 y) (mU c l)=some (mU c (l.set K x)):=by
 subst hy;unfold mU;have e:=q4M (us c l) 0 K (c - x);rw[zQI] at e;rw[q9I _ (qX5 h),e,zCN]
theorem zCW {c:Int}{l:List Int}{x y:Int}(hy:y=c - x):qZ9 Tryz.prog 3 (.int .i64 (l.length:Int)) (.int .i64 y) (mU c l)=some (mU c (l++[x])):=by
 subst hy;unfold mU;have e:=q55 (us c l) 0 (c - x);rw[zQI,qI7] at e;rw[q7J _ (q7Y _ _ _ (.inr (by rw[qI7];exact Int.le_of_eq (Int.zero_add _)))),e,zC7]
theorem h11 {c:Int}{ps a:List Int}(v:Vc c ps)(ha:a.length<=67):H11 (c,ps,a)=some (csC c ps a):=by
 have hc1:=v.lo;have hc2:=v.hi;have hpl:=v.len;refine OkT.eq ?_;show OkT (G11 c ps a) _;unfold G11;refine zR (h14 (by omega)) (zR (h59 _ _) (zR (h58 _ (by simp)) ?_));rw[q3S,v.bad];by_cases hn:a.length=ps.length
 ·rw[show ((a.length:Int) != (ps.length:Int))=false by simp[hn]];refine qD1 rfl ?_;refine q6K (fun s=>∃ k:Nat,s.1=(k:Int)∧k<=a.length∧s.2=mU c (lfK c ps a k)∧erK c ps a k=0) (fun s=>a.length - s.1.toNat) ⟨0,rfl,zR1 _,rfl,rfl⟩ ?_;rintro⟨i,l⟩ ⟨k,h1,h2,h3,he⟩;obtain rfl:i=(k:Int):=h1;have h3:l=mU c (lfK c ps a k):=h3;subst h3;have hml:=zBS c (lfK c ps a k);by_cases hk:k < a.length
  ·have hkp:k < ps.length:=by omega
   have hp:=v.ps.getD hkp;have hb:=qC8 (b:=a) v.ps k (by omega) he;have hll:=qDL (c:=c) (ps:=ps) (b:=a) k
   have hend:∀ K:Nat,a.getD k 0=(K:Int)->K<=(lfK c ps a k).length->∀ (x:Int),x=c - (lfK c ps a (k+1)).getD K 0->OkT (zGM.ite (decide (c < x)) (zGM.ret (Sum.inr (Sum.inr (Sum.inl (0,31))))) (zGM.ret (Sum.inl (IntKind.i64.wrap ((k:Int)+1),mU c (lfK c ps a (k+1))))):zGM (Int×List (Value×Value)⊕Int×List (Value×Value)⊕Int×Int⊕Nat×Int×List (Value×Value))) fun o=>(∃ s',o=.inl s'∧(∃ k':Nat,s'.1=(k':Int)∧k'<=a.length∧s'.2=mU c (lfK c ps a k')∧erK c ps a k'=0)∧a.length - s'.1.toNat < a.length - (k:Int).toNat)∨(o=.inr (.inr (.inl (csC c ps a)))):=by
    intro K hK' hKl x hx;have het:=zE4 (c:=c) (ps:=ps) he hK' hKl;refine kI (fun q2=>qM (.inr ?_)) fun q2=>qM (.inl ⟨_,rfl,⟨k+1,qAH (by omega),hk,rfl,?_⟩,?_⟩)
    ·have q2:=of_decide_eq_true q2;rw[qYL hn hk (het.trans (if_pos (by omega))) (by decide)]
    ·have q2:=of_decide_eq_false q2;exact het.trans (if_neg (by omega))
    ·simp only[qAH (show k < 2 ^ 62 by omega)];omega
   refine eY (qT5 (show (k:Int) < (a.length:Int) by omega)) (yF k rfl hk (yH hk (kI (fun q1=>kI (fun q2=>qM ?_) fun q2=>?_) fun q1=>qM ?_)))
   ·show OkT (zGM.ret ((0:Int),(11:Int))) _;have q2:((mU c (lfK c ps a k)).length:Int) < a[k]:=of_decide_eq_true q2;exact qM (qYL hn hk (zBJ he (.inr (by rw[gDE hk];omega))) (by decide)).symm
   ·rw[qZ4,zQX] at q1;have q1:=of_decide_eq_false q1;have q2:¬ ((mU c (lfK c ps a k)).length:Int) < a[k]:=of_decide_eq_false q2
    obtain⟨K,hK⟩:∃ K:Nat,a[k]=(K:Int):=⟨a[k].toNat,by omega⟩
    have hK':a.getD k 0=(K:Int):=by rw[gDE hk];exact hK
    rw[hK];by_cases hKl:K < (lfK c ps a k).length
    ·have hx:=hb.getD hKl;have hw:IntKind.i64.wrap (c - (lfK c ps a k).getD K 0+ps[k])=c - ((lfK c ps a k).getD K 0 - ps.getD k 0):=by rw[<-gDE hkp,aP (by omega) (by omega)];omega
     have hKs:K < ((lfK c ps a k).set K ((lfK c ps a k).getD K 0 - ps.getD k 0)).length:=by rw[zQP];exact hKl
     refine zR (qU5 hKl) (eY rfl (zR (qXH hKl) (yF k rfl hkp (yH hkp (zR (zCU hKl hw) (zR (qU5 hKs) (eY rfl (zR (qXH hKs) ?_))))))));rw[<-q4L hK' hKl];refine (hend K hK' (by omega) _ rfl).mono fun o ho=>?_
     rcases ho with ⟨s',rfl,q3,q4⟩ | rfl
     ·exact⟨q3,q4⟩
     ·exact qM rfl
    ·have hKe:K=(lfK c ps a k).length:=by omega
     subst hKe;have hw:IntKind.i64.wrap (0+ps[k])=c - (c - ps.getD k 0):=by rw[<-gDE hkp,aP (by omega) (by omega)];omega
     have hKs:(lfK c ps a k).length < (lfK c ps a k++[c - ps.getD k 0]).length:=by simp
     refine zR zER (qD1 rfl (yF k rfl hkp (yH hkp (zR (zCW hw) (zR (qU5 hKs) (eY rfl (zR (qXH hKs) ?_)))))));rw[<-q4K hK' rfl];refine (hend (lfK c ps a k).length hK' (zP0 _) _ rfl).mono fun o ho=>?_
     rcases ho with ⟨s',rfl,q3,q4⟩ | rfl
     ·exact⟨q3,q4⟩
     ·exact qM rfl
   ·rw[qZ4,Bool.not_eq_false'] at q1;have q1:=of_decide_eq_true q1;show OkT (zGM.ret ((0:Int),(11:Int))) _;exact qM (qYL hn hk (zBJ he (.inl (by rw[gDE hk];exact q1))) (by decide)).symm
  ·have hka:k=a.length:=by omega
   refine qD1 (qWQ (by omega)) (qM ?_);show OkT (zGM.ret (((mU c (lfK c ps a k)).length:Int),(0:Int))) _;refine qM ?_;unfold csC;rw[if_neg (by omega),<-hka,if_neg (fun q=>q he),hml]
 ·rw[show ((a.length:Int) != (ps.length:Int))=true by simp;omega];refine eY rfl (qM ?_);unfold csC;rw[if_pos hn];rfl
theorem zE6 {c:Int}{ps:List Int}{k:Nat}(v:Vc c ps)(hk:k < ps.length):IntKind.i64.wrap (sK ps k+ps[k])=sK ps (k+1):=by
 have h1:=qTW v.ps k (by omega);have h2:=v.ps.getD hk;have h3:=v.len;have hi:=v.hi;have h4:c*(k:Int)<=999999999*64:=Int.mul_le_mul hi (by omega) (by omega) (by omega);rw[zTD] at h1;rw[show sK ps (k+1)=sK ps k+ps.getD k 0 from rfl,gDE hk] at *;rw[aP (by omega) (by omega)]
theorem zEF {c:Int}{ps:List Int}(v:Vc c ps):qZ7 .i64 (IntKind.i64.wrap (IntKind.i64.wrap (sK ps ps.length+c) - 1)) c=some ((sK ps ps.length+c - 1) / c):=by
 have h1:=qTW v.ps _ (zP0 _);have hc:=v.lo;have hi:=v.hi;have h3:=v.len;rw[zTD] at h1;have h4:c*(ps.length:Int)<=999999999*64:=Int.mul_le_mul hi (by omega) (by omega) (by omega)
 have h5:(sK ps ps.length+c - 1) / c<=ps.length+1:=by
  refine Int.le_of_lt_add_one (zT8 (by omega) ?_);rw[Int.add_mul,zTD,Int.add_mul,zTD,Int.mul_comm _ c];omega
 have h6:0<=(sK ps ps.length+c - 1) / c:=Int.ediv_nonneg (by omega) (by omega);rw[aP (n:=sK ps ps.length+c) (by omega) (by omega),aP (n:=sK ps ps.length+c - 1) (by omega) (by omega)];unfold qZ7;rw[if_neg (by omega),Int.tdiv_eq_ediv_of_nonneg (by omega),aP (by omega) (by omega)]
theorem h62 {c:Int}{ps:List Int}(v:Vc c ps):H62 (c,ps)=some ((sK ps ps.length+c - 1) / c):=by
 have h3:=v.len;refine OkT.eq ?_;show OkT (G62 c ps) _;unfold G62;refine qI1 ps.length (fun k (s:Int)=>(s,(k:Int))) (fun k s=>s=sK ps k) 0 rfl rfl ?_ ?_
 ·intro k s hk hs;refine eY (qT5 (show (k:Int) < (ps.length:Int) by omega)) (yF k rfl hk (yH hk (qM ⟨sK ps (k+1),?_,rfl⟩)));rw[hs];simp only[zE6 v hk,qAH (show k < 2 ^ 62 by omega)]
 ·intro s hs;refine qD1 (qWQ (show ¬ (ps.length:Int) < (ps.length:Int) by omega)) (qM ⟨_,rfl,?_⟩);have hs:s=sK ps ps.length:=hs;subst hs;have:H63 (sK ps ps.length,c)=some ((sK ps ps.length+c - 1) / c):=OkT.eq (zR (zEF v) (qM rfl));exact zR this (qM rfl)
theorem h66 {c:Int}{ps:List Int}(v:Vc c ps):H66 (c,ps)=some (lgK c ps ps.length):=by
 have h3:=v.len;have hc:=v.lo;have hi:=v.hi;refine OkT.eq ?_;show OkT (G66 c ps) _;unfold G66;refine qI1 ps.length (fun k (s:Int)=>(s,(k:Int))) (fun k s=>s=lgK c ps k) 0 rfl rfl ?_ ?_
 ·intro k s hk hs;have hp:=v.ps.getD hk;rw[gDE hk] at hp;have hl:=qPS (c:=c) (ps:=ps) k
  have hq:qZ7 .i64 (IntKind.i64.wrap (2*ps[k])) (IntKind.i64.wrap (c+1))=some (if c < 2*ps.getD k 0 then 1 else 0):=by
   rw[aP (n:=2*ps[k]) (by omega) (by omega),aP (n:=c+1) (by omega) (by omega),gDE hk];unfold qZ7;rw[if_neg (by omega),Int.tdiv_eq_ediv_of_nonneg (by omega)];by_cases q:c < 2*ps[k]
   ·have g1:2*ps[k] / (c+1) < 2:=zT8 (by omega) (by omega);have g2:1<=2*ps[k] / (c+1):=Int.le_ediv_of_mul_le (by omega) (by omega);rw[if_pos q,show 2*ps[k] / (c+1)=1 by omega];rfl
   ·rw[if_neg q,Int.ediv_eq_zero_of_lt (by omega) (by omega)];rfl
  refine eY (qT5 (show (k:Int) < (ps.length:Int) by omega)) (yF k rfl hk (yH hk (zR hq (qM ⟨lgK c ps (k+1),?_,rfl⟩))));rw[hs];have e:lgK c ps (k+1)=lgK c ps k+if c < 2*ps.getD k 0 then 1 else 0:=rfl
  have hw:IntKind.i64.wrap (lgK c ps k+if c < 2*ps.getD k 0 then 1 else 0)=lgK c ps k+if c < 2*ps.getD k 0 then 1 else 0:=by
   split <;> exact aP (by omega) (by omega)
  simp only[hw,e,qAH (show k < 2 ^ 62 by omega)]
 ·intro s hs;exact qD1 (qWQ (show ¬ (ps.length:Int) < (ps.length:Int) by omega)) (qM ⟨_,rfl,qM hs⟩)
theorem q4P {c:Int}{ps:List Int}(v:Vc c ps):0<=(sK ps ps.length+c - 1) / c:=by
 have h1:=(qTW v.ps _ (zP0 _)).1;rw[zTD] at h1;have:=v.lo;exact Int.ediv_nonneg (by omega) (by omega)
theorem h13 {c:Int}{ps:List Int}(v:Vc c ps):H13 (c,ps)=some (bdC c ps,0):=by
 have h3:=v.len;have h1:=q4P v;have h2:=(qPS (c:=c) (ps:=ps) ps.length).1;refine OkT.eq ?_;show OkT (G13 c ps) _;unfold G13;refine zR (h14 (by omega)) ?_;rw[v.bad];refine qD1 rfl (zR (h62 v) (zR (h66 v) (qM ?_)));unfold bdC;generalize (sK ps ps.length+c - 1) / c=u at *;generalize lgK c ps ps.length=w at *
 have e1:(bif decide (0 < u) then u else 0)=u:=by
  by_cases q:0 < u
  ·rw[decide_eq_true q];rfl
  ·rw[decide_eq_false q];show 0=u;omega
 rw[e1];by_cases q:u < w
 ·rw[decide_eq_true q,if_neg (by omega)];rfl
 ·rw[decide_eq_false q];split
  ·rfl
  ·show (u,(0:Int))=_;rw[show u=w by omega]
end Go.Proofs.YtdohendjiddokaaGreatDoor
