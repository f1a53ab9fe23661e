/- Plain laws of chapter 9: ways of cutting by the program, and the bound. Conditions: none. -/
import Derived.Test.YtjcflcpjglpicaaGreatDoorCU1
set_option linter.all false
set_option maxRecDepth 10000
set_option maxHeartbeats 100000000
namespace Go.Proofs.YtjcflcpjglpicaaGreatDoor
open Go Go.Idl Go.Sv Go.Proofs
def us (c:Int)(l:List Int):List Int:=l.map fun x=>c - x
theorem qJR (c:Int)(l:List Int):(us c l).length=l.length:=zPR ..
theorem zAQ {c:Int}{l:List Int}{i:Nat}(h:i < l.length):(us c l)[i]?=some (c - l.getD i 0):=by
 unfold us;rw[zP0,zPO h,gDE h];rfl
theorem zCB (c:Int)(l:List Int)(i:Nat)(x:Int):(us c l).set i (c - x)=us c (l.set i x):=by
 unfold us;rw[zTD]
theorem zA0 (c:Int)(l:List Int)(x:Int):us c l++[c - x]=us c (l++[x]):=by
 unfold us;rw[zQX];rfl
def mU (c:Int)(l:List Int):List (Value×Value):=eM (eU 0 (us c l))
theorem zAX (c:Int)(l:List Int):(mU c l).length=l.length:=by
 unfold mU eM;rw[zPR,q5B,qJR]
theorem qUN {c:Int}{l:List Int}{K:Nat}(h:K < l.length):qG9 (K:Int) (eU 0 (us c l))=some K:=by
 have:=q5U (us c l) 0 K (by rw[qJR];exact h);rw[zP4] at this;exact this
theorem qZB {c:Int}{l:List Int}{K:Nat}(h:K < l.length):q0O Tryz.prog 3 (.int .i64 (K:Int)) (mU c l)=some true:=by
 unfold mU;rw[q5O,qUN h];rfl
theorem zD9 {c:Int}{l:List Int}:q0O Tryz.prog 3 (.int .i64 (l.length:Int)) (mU c l)=some false:=by
 unfold mU;rw[q5O,q8B _ _ _ (.inr (by rw[qJR];exact Int.le_of_eq (Int.zero_add _)))];rfl
theorem qXU {c:Int}{l:List Int}{K:Nat}(h:K < l.length):q04 Tryz.prog 3 (.int .i64) (.int .i64 (K:Int)) (mU c l)=some (c - l.getD K 0):=by
 unfold mU;have e:=q5H (us c l) 0 K;rw[zAQ h,zP4] at e;rw[zBG (qUN h) e];rfl
theorem zAS {c:Int}{l:List Int}{K:Nat}{x y:Int}(h:K < l.length)(hy:y=c - x):qZV Tryz.prog 3 (.int .i64 (K:Int)) (.int .i64 y) (mU c l)=some (mU c (l.set K x)):=by
 subst hy;unfold mU;have e:=q5M (us c l) 0 K (c - x);rw[zP4] at e;rw[q83 _ (qUN h),e,zCB]
theorem zA7 {c:Int}{l:List Int}{x y:Int}(hy:y=c - x):qZV Tryz.prog 3 (.int .i64 (l.length:Int)) (.int .i64 y) (mU c l)=some (mU c (l++[x])):=by
 subst hy;unfold mU;have e:=q4H (us c l) 0 (c - x);rw[zP4,qJR] at e;rw[q8S _ (q8B _ _ _ (.inr (by rw[qJR];exact Int.le_of_eq (Int.zero_add _)))),e,zA0]
theorem zF2 {c:Int}{ps a:List Int}(hl:ps.length<=67)(hb:qL5 c ps≠0):H11 (c,ps,a)=some (0,qL5 c ps):=by
 refine OkT.eq ?_;show OkT (G11 c ps a) _;unfold G11;refine qU (h14 (by omega)) (qU (h59 _ _) (qU (h58 _ (by simp)) ?_));rw[qOC,bne_iff_ne.2 hb];exact jR (bne_iff_ne.2 hb) (qG rfl)
theorem h11 {c:Int}{ps a:List Int}(v:Vc c ps)(ha:a.length<=67):H11 (c,ps,a)=some (csC c ps a):=by
 have hc1:=v.lo;have hc2:=v.hi;have hpl:=v.len;refine OkT.eq ?_;show OkT (G11 c ps a) _;unfold G11;refine qU (h14 (by omega)) (qU (h59 _ _) (qU (h58 _ (by simp)) ?_));rw[qOC,v.bad];by_cases hn:a.length=ps.length
 ·rw[show ((a.length:Int) != (ps.length:Int))=false by simp[hn]];refine aR rfl ?_;refine qUJ (fun s=>∃ k:Nat,s.1=(k:Int)∧k<=a.length∧s.2=mU c (lfK c ps a k)∧erK c ps a k=0) (fun s=>a.length - s.1.toNat) ⟨0,rfl,zRJ _,rfl,rfl⟩ ?_;rintro⟨i,l⟩ ⟨k,h1,h2,h3,he⟩;obtain rfl:i=(k:Int):=h1;have h3:l=mU c (lfK c ps a k):=h3;subst h3;have hml:=zAX c (lfK c ps a k);by_cases hk:k < a.length
  ·have hkp:k < ps.length:=by omega
   have hp:=v.ps.getD hkp;have hb:=qLZ (b:=a) v.ps k (by omega) he;have hll:=nM (c:=c) (ps:=ps) (b:=a) k
   have hend:∀ K:Nat,a.getD k 0=(K:Int)->K<=(lfK c ps a k).length->∀ (x:Int),x=c - (lfK c ps a (k+1)).getD K 0->OkT (zF6.ite (decide (c < x)) (zF6.ret (Sum.inr (Sum.inr (Sum.inl (0,31))))) (zF6.ret (Sum.inl (IntKind.i64.wrap ((k:Int)+1),mU c (lfK c ps a (k+1))))):zF6 (Int×List (Value×Value)⊕Int×List (Value×Value)⊕Int×Int⊕Nat×Int×List (Value×Value))) fun o=>(∃ s',o=.inl s'∧(∃ k':Nat,s'.1=(k':Int)∧k'<=a.length∧s'.2=mU c (lfK c ps a k')∧erK c ps a k'=0)∧a.length - s'.1.toNat < a.length - (k:Int).toNat)∨(o=.inr (.inr (.inl (csC c ps a)))):=by
    intro K hK' hKl x hx;have het:=zA1 (c:=c) (ps:=ps) he hK' hKl;refine yV (fun q2=>qG (.inr ?_)) fun q2=>qG (.inl ⟨_,rfl,⟨k+1,aB (by omega),hk,rfl,?_⟩,?_⟩)
    ·have q2:=of_decide_eq_true q2;rw[qJN hn hk (het.trans (if_pos (by omega))) (by decide)]
    ·have q2:=of_decide_eq_false q2;exact het.trans (if_neg (by omega))
    ·simp only[aB (show k < 2 ^ 62 by omega)];omega
   refine jR (qK9 (show (k:Int) < (a.length:Int) by omega)) (zA k rfl hk (zB hk (yV (fun q1=>yV (fun q2=>qG ?_) fun q2=>?_) fun q1=>qG ?_)))
   ·show OkT (zF6.ret ((0:Int),(11:Int))) _;have q2:((mU c (lfK c ps a k)).length:Int) < a[k]:=of_decide_eq_true q2;exact qG (qJN hn hk (q7C he (.inr (by rw[gDE hk];omega))) (by decide)).symm
   ·rw[zB2,zQH] at q1;have q1:=of_decide_eq_false q1;have q2:¬ ((mU c (lfK c ps a k)).length:Int) < a[k]:=of_decide_eq_false q2
    obtain⟨K,hK⟩:∃ K:Nat,a[k]=(K:Int):=⟨a[k].toNat,by omega⟩
    have hK':a.getD k 0=(K:Int):=by rw[gDE hk];exact hK
    rw[hK];by_cases hKl:K < (lfK c ps a k).length
    ·have hx:=hb.getD hKl;have hw:IntKind.i64.wrap (c - (lfK c ps a k).getD K 0+ps[k])=c - ((lfK c ps a k).getD K 0 - ps.getD k 0):=by rw[<-gDE hkp,uI (by omega) (by omega)];omega
     have hKs:K < ((lfK c ps a k).set K ((lfK c ps a k).getD K 0 - ps.getD k 0)).length:=by rw[zQM];exact hKl
     refine qU (qZB hKl) (jR rfl (qU (qXU hKl) (zA k rfl hkp (zB hkp (qU (zAS hKl hw) (qU (qZB hKs) (jR rfl (qU (qXU hKs) ?_))))))));rw[<-q4V hK' hKl];refine (hend K hK' (by omega) _ rfl).mono fun o ho=>?_
     rcases ho with ⟨s',rfl,q3,q4⟩ | rfl
     ·exact⟨q3,q4⟩
     ·exact qG rfl
    ·have hKe:K=(lfK c ps a k).length:=by omega
     subst hKe;have hw:IntKind.i64.wrap (0+ps[k])=c - (c - ps.getD k 0):=by rw[<-gDE hkp,uI (by omega) (by omega)];omega
     have hKs:(lfK c ps a k).length < (lfK c ps a k++[c - ps.getD k 0]).length:=by simp
     refine qU zD9 (aR rfl (zA k rfl hkp (zB hkp (qU (zA7 hw) (qU (qZB hKs) (jR rfl (qU (qXU hKs) ?_)))))));rw[<-q4E hK' rfl];refine (hend (lfK c ps a k).length hK' (zPM _) _ rfl).mono fun o ho=>?_
     rcases ho with ⟨s',rfl,q3,q4⟩ | rfl
     ·exact⟨q3,q4⟩
     ·exact qG rfl
   ·rw[zB2,Bool.not_eq_false'] at q1;have q1:=of_decide_eq_true q1;show OkT (zF6.ret ((0:Int),(11:Int))) _;exact qG (qJN hn hk (q7C he (.inl (by rw[gDE hk];exact q1))) (by decide)).symm
  ·have hka:k=a.length:=by omega
   refine aR (qMG (by omega)) (qG ?_);show OkT (zF6.ret (((mU c (lfK c ps a k)).length:Int),(0:Int))) _;refine qG ?_;unfold csC;rw[if_neg (by omega),<-hka,if_neg (fun q=>q he),hml]
 ·rw[show ((a.length:Int) != (ps.length:Int))=true by simp;omega];refine jR rfl (qG ?_);unfold csC;rw[if_pos hn];rfl
theorem zA5 {c:Int}{ps:List Int}{k:Nat}(v:Vc c ps)(hk:k < ps.length):IntKind.i64.wrap (sK ps k+ps[k])=sK ps (k+1):=by
 have h1:=q2R v.ps k (by omega);have h2:=v.ps.getD hk;have h3:=v.len;have hi:=v.hi;have h4:c*(k:Int)<=999999999*64:=Int.mul_le_mul hi (by omega) (by omega) (by omega);rw[zT5] at h1;rw[show sK ps (k+1)=sK ps k+ps.getD k 0 from rfl,gDE hk] at *;rw[uI (by omega) (by omega)]
theorem h46 {c:Int}{ps:List Int}(v:Vc c ps):H46 ps=some (sK ps ps.length):=by
 have h3:=v.len;refine OkT.eq ?_;show OkT (G46 ps) _;unfold G46;refine tL ps.length (fun k (s:Int)=>(s,(k:Int))) (fun k s=>s=sK ps k) 0 rfl rfl ?_ ?_
 ·intro k s hk hs;refine jR (qK9 (show (k:Int) < (ps.length:Int) by omega)) (zA k rfl hk (zB hk (qG ⟨sK ps (k+1),?_,rfl⟩)));rw[hs];simp only[zA5 v hk,aB (show k < 2 ^ 62 by omega)]
 ·intro s hs;exact aR (qMG (show ¬ (ps.length:Int) < (ps.length:Int) by omega)) (qG ⟨_,rfl,qG hs⟩)
theorem zBU {c:Int}{ps:List Int}(v:Vc c ps):qWZ .i64 (IntKind.i64.wrap (IntKind.i64.wrap (sK ps ps.length+c) - 1)) c=some ((sK ps ps.length+c - 1) / c):=by
 have h1:=q2R v.ps _ (zPM _);have hc:=v.lo;have hi:=v.hi;have h3:=v.len;rw[zT5] at h1;have h4:c*(ps.length:Int)<=999999999*64:=Int.mul_le_mul hi (by omega) (by omega) (by omega)
 have h5:(sK ps ps.length+c - 1) / c<=ps.length+1:=by
  refine Int.le_of_lt_add_one (Int.ediv_lt_of_lt_mul (by omega) ?_);rw[Int.add_mul,zT5,Int.add_mul,zT5,Int.mul_comm _ c];omega
 have h6:0<=(sK ps ps.length+c - 1) / c:=Int.ediv_nonneg (by omega) (by omega);rw[uI (n:=sK ps ps.length+c) (by omega) (by omega),uI (n:=sK ps ps.length+c - 1) (by omega) (by omega)];unfold qWZ;rw[if_neg (by omega),Int.tdiv_eq_ediv_of_nonneg (by omega),uI (by omega) (by omega)]
theorem h62 {c:Int}{ps:List Int}(v:Vc c ps):H62 (c,ps)=some ((sK ps ps.length+c - 1) / c):=by
 have h3:=v.len;refine OkT.eq ?_;show OkT (G62 c ps) _;unfold G62;refine tL ps.length (fun k (s:Int)=>(s,(k:Int))) (fun k s=>s=sK ps k) 0 rfl rfl ?_ ?_
 ·intro k s hk hs;refine jR (qK9 (show (k:Int) < (ps.length:Int) by omega)) (zA k rfl hk (zB hk (qG ⟨sK ps (k+1),?_,rfl⟩)));rw[hs];simp only[zA5 v hk,aB (show k < 2 ^ 62 by omega)]
 ·intro s hs;refine aR (qMG (show ¬ (ps.length:Int) < (ps.length:Int) by omega)) (qG ⟨_,rfl,?_⟩);have hs:s=sK ps ps.length:=hs;subst hs;have:H63 (sK ps ps.length,c)=some ((sK ps ps.length+c - 1) / c):=OkT.eq (qU (zBU v) (qG rfl));exact qU this (qG rfl)
theorem h66 {c:Int}{ps:List Int}(v:Vc c ps):H66 (c,ps)=some (lgK c ps ps.length):=by
 have h3:=v.len;have hc:=v.lo;have hi:=v.hi;refine OkT.eq ?_;show OkT (G66 c ps) _;unfold G66;refine tL ps.length (fun k (s:Int)=>(s,(k:Int))) (fun k s=>s=lgK c ps k) 0 rfl rfl ?_ ?_
 ·intro k s hk hs;have hp:=v.ps.getD hk;rw[gDE hk] at hp;have hl:=qQ6 (c:=c) (ps:=ps) k
  have hq:qWZ .i64 (IntKind.i64.wrap (2*ps[k])) (IntKind.i64.wrap (c+1))=some (if c < 2*ps.getD k 0 then 1 else 0):=by
   rw[uI (n:=2*ps[k]) (by omega) (by omega),uI (n:=c+1) (by omega) (by omega),gDE hk];unfold qWZ;rw[if_neg (by omega),Int.tdiv_eq_ediv_of_nonneg (by omega)];by_cases q:c < 2*ps[k]
   ·have g1:2*ps[k] / (c+1) < 2:=Int.ediv_lt_of_lt_mul (by omega) (by omega);have g2:1<=2*ps[k] / (c+1):=Int.le_ediv_of_mul_le (by omega) (by omega);rw[if_pos q,show 2*ps[k] / (c+1)=1 by omega];rfl
   ·rw[if_neg q,Int.ediv_eq_zero_of_lt (by omega) (by omega)];rfl
  refine jR (qK9 (show (k:Int) < (ps.length:Int) by omega)) (zA k rfl hk (zB hk (qU hq (qG ⟨lgK c ps (k+1),?_,rfl⟩))));rw[hs];have e:lgK c ps (k+1)=lgK c ps k+if c < 2*ps.getD k 0 then 1 else 0:=rfl
  have hw:IntKind.i64.wrap (lgK c ps k+if c < 2*ps.getD k 0 then 1 else 0)=lgK c ps k+if c < 2*ps.getD k 0 then 1 else 0:=by
   split <;> exact uI (by omega) (by omega)
  simp only[hw,e,aB (show k < 2 ^ 62 by omega)]
 ·intro s hs;exact aR (qMG (show ¬ (ps.length:Int) < (ps.length:Int) by omega)) (qG ⟨_,rfl,qG hs⟩)
theorem zAF {c:Int}{ps:List Int}(v:Vc c ps):0<=(sK ps ps.length+c - 1) / c:=by
 have h1:=(q2R v.ps _ (zPM _)).1;rw[zT5] at h1;have:=v.lo;exact Int.ediv_nonneg (by omega) (by omega)
theorem zFV {c:Int}{ps:List Int}(hl:ps.length<=67)(hb:qL5 c ps≠0):H13 (c,ps)=some (0,qL5 c ps):=by
 refine OkT.eq ?_;show OkT (G13 c ps) _;unfold G13;exact qU (h14 (by omega)) (jR (bne_iff_ne.2 hb) (qG rfl))
theorem h13 {c:Int}{ps:List Int}(v:Vc c ps):H13 (c,ps)=some (bdC c ps,0):=by
 have h3:=v.len;have h1:=zAF v;have h2:=(qQ6 (c:=c) (ps:=ps) ps.length).1;refine OkT.eq ?_;show OkT (G13 c ps) _;unfold G13;refine qU (h14 (by omega)) ?_;rw[v.bad];refine aR rfl (qU (h62 v) (qU (h66 v) (qG ?_)));unfold bdC;generalize (sK ps ps.length+c - 1) / c=u at *;generalize lgK c ps ps.length=w at *
 have e1:(bif decide (0 < u) then u else 0)=u:=by
  by_cases q:0 < u
  ·rw[decide_eq_true q];rfl
  ·rw[decide_eq_false q];show 0=u;omega
 rw[e1];by_cases q:u < w
 ·rw[decide_eq_true q,if_neg (by omega)];rfl
 ·rw[decide_eq_false q];split
  ·rfl
  ·show (u,(0:Int))=_;rw[show u=w by omega]
theorem h20 {c:Int}{ps:List Int}(v:Vc c ps):H20 (c,ps)=some (bdC c ps):=by
 have h3:=v.len;have hc:=v.lo;have hi:=v.hi;refine OkT.eq ?_;show OkT (G20 c ps) _;unfold G20;refine tL ps.length (fun k (s:Int)=>(s,(k:Int))) (fun k s=>s=lgK c ps k) 0 rfl rfl ?_ ?_
 ·intro k s hk hs;have hp:=v.ps.getD hk;rw[gDE hk] at hp;have hl:=qQ6 (c:=c) (ps:=ps) k;have e:lgK c ps (k+1)=lgK c ps k+if c < 2*ps.getD k 0 then 1 else 0:=rfl;rw[gDE hk] at e;refine jR (qK9 (show (k:Int) < (ps.length:Int) by omega)) (zA k rfl hk (zB hk ?_));rw[uI (n:=2*ps[k]) (by omega) (by omega)];refine yV (fun q=>qG ⟨lgK c ps (k+1),?_,rfl⟩) fun q=>qG ⟨lgK c ps (k+1),?_,rfl⟩
  ·have q:=of_decide_eq_true q;rw[hs,e,if_pos q];simp only[aB (show k < 2 ^ 62 by omega)];rw[uI (by omega) (by omega)]
  ·have q:=of_decide_eq_false q;rw[hs,e,if_neg q,Int.add_zero];simp only[aB (show k < 2 ^ 62 by omega)]
 ·intro s hs;refine aR (qMG (show ¬ (ps.length:Int) < (ps.length:Int) by omega)) (qG ⟨_,rfl,?_⟩);have hs:s=lgK c ps ps.length:=hs;subst hs;refine qU (h46 v) (qU (zBU v) (qG ?_));unfold bdC;by_cases q:lgK c ps ps.length < (sK ps ps.length+c - 1) / c
  ·rw[if_pos q,decide_eq_true q];rfl
  ·rw[if_neg q,decide_eq_false q];rfl
end Go.Proofs.YtjcflcpjglpicaaGreatDoor
