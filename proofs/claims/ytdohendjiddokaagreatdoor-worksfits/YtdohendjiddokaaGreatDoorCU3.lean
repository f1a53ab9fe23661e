/- Plain laws of chapter 9: the first fit; the reference's search for the best way of cutting. Conditions: none. -/
import Derived.Test.YtdohendjiddokaaGreatDoorCU2
set_option linter.all false
set_option maxRecDepth 10000
set_option maxHeartbeats 100000000
namespace Go.Proofs.YtdohendjiddokaaGreatDoor
open Go Go.Idl Go.Sv Go.Proofs
theorem zDZ {c:Int}{ps:List Int}(v:Vc c ps){k:Nat}(hk:k<=ps.length):Bw (fl c ps k) 0 (c - 1):=qC8 v.ps k hk (q2Q v.ps k hk)
theorem q49 {c:Int}{ps:List Int}(k:Nat):(fl c ps k).length<=k:=qDL k
theorem zBW {c:Int}{ps:List Int}{k:Nat}(hk:k < ps.length)(h:∀ j,j < (fl c ps k).length->¬ ps.getD k 0<=(fl c ps k).getD j 0):fl c ps (k+1)=fl c ps k++[c - ps.getD k 0]∧ffK c ps (k+1)=ffK c ps k++[((fl c ps k).length:Int)]:=by
 have e:=zBK h;constructor
 ·rw[qHQ,e,nW (zP0 _)]
 ·show ffK c ps k++[((fiI (fl c ps k) (ps.getD k 0):Nat):Int)]=_;rw[e]
theorem zB0 {c:Int}{ps:List Int}{k K:Nat}(hk:k < ps.length)(hK:K < (fl c ps k).length)(h1:ps.getD k 0<=(fl c ps k).getD K 0)(h2:∀ j,j < K->¬ ps.getD k 0<=(fl c ps k).getD j 0):fl c ps (k+1)=(fl c ps k).set K ((fl c ps k).getD K 0 - ps.getD k 0)∧ffK c ps (k+1)=ffK c ps k++[(K:Int)]:=by
 have e:=zC0 hK h1 h2;constructor
 ·rw[qHQ,e,oD hK]
 ·show ffK c ps k++[((fiI (fl c ps k) (ps.getD k 0):Nat):Int)]=_;rw[e]
theorem h12 {c:Int}{ps:List Int}(v:Vc c ps):H12 (c,ps)=some (ffK c ps ps.length,0):=by
 have hpl:=v.len;have hc1:=v.lo;have hc2:=v.hi;refine OkT.eq ?_;show OkT (G12 c ps) _;unfold G12;refine zR (h14 (by omega)) ?_;rw[v.bad];refine qD1 rfl ?_;refine qI1 ps.length (fun k (s:List Int×List Int)=>((k:Int),s.1,s.2)) (fun k s=>s=(fl c ps k,ffK c ps k)) ([],[]) rfl rfl ?_ ?_
 ·rintro k ⟨l,o⟩ hk hs;obtain⟨rfl,rfl⟩:=Prod.mk.inj hs;have hb:=zDZ v (show k<=ps.length by omega);have hll:=q49 (c:=c) (ps:=ps) k;have hol:=mQ (c:=c) (ps:=ps) k;have hp:=v.ps.getD hk;have w1:IntKind.i64.wrap ((k:Int)+1)=((k+1:Nat):Int):=qAH (by omega);refine eY (qT5 (show (k:Int) < (ps.length:Int) by omega)) (yF k rfl hk (yH hk ?_));have hx:ps[k]=ps.getD k 0:=(gDE hk).symm;simp only[hx,w1]
  have hnew:(∀ j,j < (fl c ps k).length->¬ ps.getD k 0<=(fl c ps k).getD j 0)->OkT (zGM.ite (((fl c ps k).length+[c].length).ble 1048576) (zGM.bind (idx ((fl c ps k).length+[c].length) ((fl c ps k).length:Int)) fun (x8:Nat)=>zGM.bind ((fl c ps k)++[c])[x8]? fun (x9:Int)=>zGM.bind (idx ((fl c ps k).length+[c].length) ((fl c ps k).length:Int)) fun (x10:Nat)=>zGM.bind ((fl c ps k)++[c])[x10]? fun (x11:Int)=>zGM.ite (((ffK c ps k).length+[((fl c ps k).length:Int)].length).ble 1048576) (zGM.ret (Sum.inl (((k+1:Nat):Int),((fl c ps k)++[c]).set x10 (IntKind.i64.wrap (x9 - ps.getD k 0)),(ffK c ps k)++[((fl c ps k).length:Int)]))) zGM.fail) zGM.fail:zGM (Int×List Int×List Int⊕Int×List Int×List Int⊕List Int×Int⊕Nat×Int×List Int×List Int)) fun o=>∃ s':List Int×List Int,o=.inl (((k+1:Nat):Int),s'.1,s'.2)∧s'=(fl c ps (k+1),ffK c ps (k+1)):=by
   intro hn;obtain⟨e1,e2⟩:=zBW hk hn;have hlast:(fl c ps k).length < ((fl c ps k)++[c]).length:=by simp
   have hg:((fl c ps k)++[c])[(fl c ps k).length]=c:=by simp
   refine eY (zQH (by simp;omega)) (yF _ rfl (by simp) (yH hlast (yF _ rfl (by simp) (yH hlast (eY (zQH (by simp;omega)) (qM ⟨(fl c ps (k+1),ffK c ps (k+1)),?_,rfl⟩))))));simp only[hg,qR6];rw[e1,e2,aP (by omega) (by omega)]
  refine qGL (fl c ps k).length (fun j=>ps.getD k 0<=(fl c ps k).getD j 0) (fun j=>.inr (.inl (j:Int))) (.inl ((fl c ps k).length:Int)) ?_ ?_ ?_ ?_
  ·intro j hj;refine eY (qT5 (show (j:Int) < ((fl c ps k).length:Int) by omega)) (yF j rfl hj (yH hj ?_));rw[gDE hj];refine kI (fun q=>qM (.inl ⟨of_decide_eq_true q,rfl⟩)) fun q=>qM (.inr ⟨of_decide_eq_false q,?_⟩)
   rw[qAH (show j < 2 ^ 62 by omega)]
  ·exact qD1 (qWQ (show ¬ ((fl c ps k).length:Int) < ((fl c ps k).length:Int) by omega)) (qM rfl)
  ·intro K hK h1 h2;obtain⟨e1,e2⟩:=zB0 hk hK h1 h2;refine yF K rfl hK (yH hK (yF K rfl hK (yH hK (eY (zQH (by simp;omega)) (qM ⟨(fl c ps (k+1),ffK c ps (k+1)),?_,rfl⟩)))));have:=hb.getD hK;rw[gDE hK] at this;simp only[e1,e2,gDE hK];rw[aP (by omega) (by omega)]
  ·exact hnew
 ·rintro⟨l,o⟩ hs;obtain⟨rfl,rfl⟩:=Prod.mk.inj hs;exact qD1 (qWQ (show ¬ (ps.length:Int) < (ps.length:Int) by omega)) (qM ⟨_,rfl,qM rfl⟩)
end Go.Proofs.YtdohendjiddokaaGreatDoor
