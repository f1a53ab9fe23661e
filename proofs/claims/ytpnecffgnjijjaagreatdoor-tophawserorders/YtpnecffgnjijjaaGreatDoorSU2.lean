/- Plain laws of chapter 9: valid shops, the time of a sequence, the bound, permutations. Conditions: none. -/
import Derived.Test.YtpnecffgnjijjaaGreatDoorSU1
set_option linter.all false
set_option maxRecDepth 10000
set_option maxHeartbeats 100000000
namespace Go.Proofs.YtpnecffgnjijjaaGreatDoor
open Go Go.Idl Go.Sv Go.Proofs
def seG (se:List (List Int))(a b:Nat):Int:=(se.getD a []).getD b 0
structure Vs (ti fi:List Int) (se:List (List Int)):Prop where
 n1:1<=ti.length
 n2:ti.length<=32
 f:fi.length=ti.length
 s:se.length=ti.length
 r:∀ k,k < se.length->(se.getD k []).length=ti.length
 tb:Bw ti 0 1000000
 fb:Bw fi 0 1000000
 rb:∀ k,k < se.length->Bw (se.getD k []) 0 1000000
 dg:∀ k,k < se.length->seG se k k=0
theorem q52 {l:List Int}(h:tB l=false):Bw l 0 1000000:=fun x hx=>by
 have:=zPY.1 h x hx;unfold outs at this;simp at this;exact this
theorem q36 {se:List (List Int)}:∀ {n:Nat},qLV se n=false->∀ k,k < n->qHO (se.getD k []) k=false
 | 0,_,k,hk=>absurd hk (zOU _)
 | n+1,h,k,hk=>by
   unfold qLV at h;rw[zPM] at h;by_cases q:k=n
   ·subst q;exact h.2
   ·exact q36 h.1 k (by omega)
theorem qSJ {ti fi:List Int}{se:List (List Int)}(h:qDD ti fi se=0):Vs ti fi se:=by
 unfold qDD at h;split at h
 ·cases h
 split at h
 ·cases h
 split at h
 ·cases h
 split at h
 ·cases h
 split at h
 ·cases h
 split at h
 ·cases h
 rename_i h1 h2 h3 h4 h5 h6;rw[zQI] at h4 h5 h6;rw[zPM] at h5;have hse:se.length=ti.length:=by omega
 have hrow:=q36 h6;refine⟨by omega,by omega,by omega,hse,fun k hk=>?_,q52 h5.1,q52 h5.2,fun k hk=>?_,fun k hk=>?_⟩
 ·have:=zPY.1 h4 _ (zOG hk);rw[zQI,bne_eq_false_iff_eq] at this;rw[gDL hk];exact this
 ·have:=hrow k hk;unfold qHO at this;rw[zPM] at this;exact q52 this.1
 ·have:=hrow k hk;unfold qHO at this;rw[zPM,bne_eq_false_iff_eq] at this;exact this.2
theorem Vs.se {ti fi:List Int}{se:List (List Int)}(v:Vs ti fi se){a b:Nat}(ha:a < ti.length)(hb:b < ti.length):0<=seG se a b∧seG se a b<=1000000:=by
 have h1:a < se.length:=by rw[v.s];exact ha
 exact (v.rb a h1).getD (by rw[v.r a h1];exact hb)
def tmK (fi:List Int)(se:List (List Int))(o:List Int):Nat->Int
 | 0=>0
 | k+1=>tmK fi se o k+if k=0 then fi.getD (o.getD k 0).toNat 0 else seG se (o.getD (k - 1) 0).toNat (o.getD k 0).toNat
def tm (ti fi:List Int)(se:List (List Int))(o:List Int):Int:=sK ti ti.length+tmK fi se o o.length
def InR (o:List Int)(n:Nat):Prop:=∀ j,j < o.length->0<=o.getD j 0∧o.getD j 0 < n
theorem InR.at {o:List Int}{n j:Nat}(h:InR o n)(hj:j < o.length):∃ K:Nat,o[j]=(K:Int)∧K < n:=by
 have:=h j hj;rw[gDE hj] at this;exact⟨o[j].toNat,by omega,by omega⟩
theorem qPY {ti fi:List Int}{se:List (List Int)}{o:List Int}(v:Vs ti fi se)(h:InR o ti.length):∀ k,k<=o.length->0<=tmK fi se o k∧tmK fi se o k<=1000000*k
 | 0,_=>by
   show (0:Int)<=0∧(0:Int)<=_;omega
 | k+1,hk=>by
   have ih:=qPY v h k (by omega);have h1:=h k (by omega);show 0<=tmK fi se o k+(if k=0 then _ else _)∧tmK fi se o k+(if k=0 then _ else _)<=_;split
   ·have:=v.fb.getD (show (o.getD k 0).toNat < fi.length by rw[v.f];omega);omega
   ·have h2:=h (k - 1) (by omega);have:=v.se (show (o.getD (k - 1) 0).toNat < ti.length by omega) (show (o.getD k 0).toNat < ti.length by omega);omega
theorem qOE {l:List Int}(h:Bw l 0 1000000):∀ k,k<=l.length->0<=sK l k∧sK l k<=1000000*k:=fun k hk=>by
 have:=q9F h k hk;rw[Int.zero_mul] at this;exact this
theorem zA0 {ti fi:List Int}{se:List (List Int)}{o:List Int}(v:Vs ti fi se)(h:InR o ti.length)(hl:o.length<=100):0<=tm ti fi se o∧tm ti fi se o<=200000000:=by
 have h1:=qOE v.tb _ (zM0 _);have h2:=qPY v h _ (zM0 _);have h3:=v.n2;unfold tm;omega
theorem q26 {l:List Int}(h:Bw l 0 1000000)(hl:l.length<=32){k:Nat}(hk:k < l.length):IntKind.i64.wrap (sK l k+l[k])=sK l (k+1):=by
 have h1:=qOE h k (by omega);have h2:=h.get hk;rw[show sK l (k+1)=sK l k+l.getD k 0 from rfl,gDE hk,qR6 (by omega) (by omega)]
theorem zA7 {ti fi:List Int}{se:List (List Int)}{o:List Int}(v:Vs ti fi se)(h:InR o ti.length)(hl:o.length<=100){k:Nat}(hk:k < o.length){x:Int}(hx:x=if k=0 then fi.getD (o.getD k 0).toNat 0 else seG se (o.getD (k - 1) 0).toNat (o.getD k 0).toNat):IntKind.i64.wrap (sK ti ti.length+tmK fi se o k+x)=sK ti ti.length+tmK fi se o (k+1):=by
 have h1:=qOE v.tb _ (zM0 _);have h2:=qPY v h (k+1) hk;have h3:=qPY v h k (by omega);have h4:=v.n2;have e:tmK fi se o (k+1)=tmK fi se o k+x:=by rw[hx];rfl
 rw[e] at h2 ⊢;rw[qR6 (by omega) (by omega)];omega
theorem h77 {ti fi:List Int}{se:List (List Int)}{o:List Int}(v:Vs ti fi se)(h:InR o ti.length)(hl:o.length<=100):H24 ((ti,fi,se),o)=some (tm ti fi se o):=by
 have hn:=v.n2;refine OkT.eq ?_;show OkT (G24 (ti,fi,se) o) _;unfold G24;dsimp only;refine jU (fun t=>t=sK ti ti.length) ?_ ?_
 ·refine aM ti.length (fun k (s:Int)=>(s,(k:Int))) (fun k s=>s=sK ti k) 0 rfl rfl ?_ ?_
  ·intro k s hk hs;refine xV (qAG (show (k:Int) < (ti.length:Int) by omega)) (zH k rfl hk (zB hk (qC ⟨sK ti (k+1),?_,rfl⟩)));rw[hs];simp only[q26 v.tb hn hk,jC (show k < 2 ^ 62 by omega)]
  ·intro s hs;exact kD (qCY (show ¬ (ti.length:Int) < (ti.length:Int) by omega)) (qC ⟨_,rfl,qC ⟨_,rfl,hs⟩⟩)
 ·rintro t rfl;refine aM o.length (fun k (s:Int)=>(s,(k:Int))) (fun k s=>s=sK ti ti.length+tmK fi se o k) (sK ti ti.length) rfl (Int.add_zero _).symm ?_ ?_
  ·intro k s hk hs;obtain⟨K,hK,hKn⟩:=h.at hk;have hKg:o.getD k 0=(K:Int):=by rw[gDE hk,hK]
   refine xV (qAG (show (k:Int) < (o.length:Int) by omega)) (zH k rfl hk (zB hk ?_));refine yV (fun q=>?_) fun q=>?_
   ·have q:k=0:=by simpa using q
    have hKf:K < fi.length:=by rw[v.f];exact hKn
    refine zH K hK hKf (zB hKf (qC ⟨sK ti ti.length+tmK fi se o (k+1),?_,rfl⟩));rw[hs];simp only[zA7 v h hl hk (x:=fi[K]) (by rw[if_pos q,hKg,zPO,gDE hKf]),jC (show k < 2 ^ 62 by omega)]
   ·have q:k≠0:=by simpa using q
    have hk1:k - 1 < o.length:=by omega
    obtain⟨M,hM,hMn⟩:=h.at hk1;have hMg:o.getD (k - 1) 0=(M:Int):=by rw[gDE hk1,hM]
    have hMs:M < se.length:=by rw[v.s];exact hMn
    have hKr:K < se[M].length:=by have:=v.r M hMs;rw[gDL hMs] at this;rw[this];exact hKn
    have hw:IntKind.i64.wrap ((k:Int) - 1)=((k - 1:Nat):Int):=by rw[qR6 (by omega) (by omega)];omega
    refine zH (k - 1) hw hk1 (zB hk1 (zH M hM hMs (zB hMs (zH K hK hKr (zB hKr (qC ⟨sK ti ti.length+tmK fi se o (k+1),?_,rfl⟩))))));rw[hs];simp only[zA7 v h hl hk (x:=se[M][K]) (by rw[if_neg q,hKg,hMg,zPO,zPO];unfold seG;rw[gDL hMs,gDE hKr]),jC (show k < 2 ^ 62 by omega)]
  ·intro s hs;exact kD (qCY (show ¬ (o.length:Int) < (o.length:Int) by omega)) (qC ⟨_,rfl,qC hs⟩)
def lsK (fi:List Int)(se:List (List Int))(i:Nat):Nat->Int
 | 0=>fi.getD i 0
 | k+1=>if k=i then lsK fi se i k else if seG se k i < lsK fi se i k then seG se k i else lsK fi se i k
def lsS (fi:List Int)(se:List (List Int))(n:Nat):Nat->Int
 | 0=>0
 | i+1=>lsS fi se n i+lsK fi se i n
def lst (ti fi:List Int)(se:List (List Int)):Int:=sK ti ti.length+lsS fi se ti.length ti.length
theorem qV7 {ti fi:List Int}{se:List (List Int)}(v:Vs ti fi se){i:Nat}(hi:i < ti.length):∀ k,k<=ti.length->0<=lsK fi se i k∧lsK fi se i k<=1000000
 | 0,_=>v.fb.getD (by rw[v.f];exact hi)
 | k+1,hk=>by
   have ih:=qV7 v hi k (by omega);have:=v.se (show k < ti.length by omega) hi;show 0<=(if k=i then _ else if _ < _ then _ else _)∧(if k=i then _ else if _ < _ then _ else _)<=_;split
   ·exact ih
   ·split
    ·exact this
    ·exact ih
theorem q3F {ti fi:List Int}{se:List (List Int)}(v:Vs ti fi se):∀ i,i<=ti.length->0<=lsS fi se ti.length i∧lsS fi se ti.length i<=1000000*i
 | 0,_=>by
   show (0:Int)<=0∧(0:Int)<=_;omega
 | i+1,hi=>by
   have ih:=q3F v i (by omega);have:=qV7 v (show i < ti.length by omega) ti.length (zM0 _);show 0<=lsS fi se ti.length i+_∧lsS fi se ti.length i+_<=_;omega
theorem zDY {ti fi:List Int}{se:List (List Int)}(v:Vs ti fi se){i:Nat}(hi:i < ti.length):IntKind.i64.wrap (sK ti ti.length+lsS fi se ti.length i+lsK fi se i ti.length)=sK ti ti.length+lsS fi se ti.length (i+1):=by
 have h1:=qOE v.tb _ (zM0 _);have h2:=q3F v i (by omega);have h3:=qV7 v hi ti.length (zM0 _);have h4:=v.n2;rw[show lsS fi se ti.length (i+1)=lsS fi se ti.length i+lsK fi se i ti.length from rfl,qR6 (by omega) (by omega)];omega
theorem zDN {a b:Int}:(bif decide (a < b) then a else b)=if a < b then a else b:=by
 by_cases h:a < b
 ·rw[if_pos h,decide_eq_true h];rfl
 ·rw[if_neg h,decide_eq_false h];rfl
theorem h26 {ti fi:List Int}{se:List (List Int)}(hs:Sb ti fi se)(hb:qDD ti fi se=0):H9 (ti,fi,se)=some (lst ti fi se,0):=by
 have v:=qSJ hb;have hn:=v.n2;have hfl:=v.f;have hsl:=v.s;refine OkT.eq ?_;show OkT (G9 (ti,fi,se)) _;unfold G9;dsimp only;refine zO (h24 hs) ?_;rw[hb];refine kD rfl ?_;refine jU (fun t=>t=sK ti ti.length) ?_ ?_
 ·refine aM ti.length (fun k (s:Int)=>(s,(k:Int))) (fun k s=>s=sK ti k) 0 rfl rfl ?_ ?_
  ·intro k s hk hs;refine xV (qAG (show (k:Int) < (ti.length:Int) by omega)) (zH k rfl hk (zB hk (qC ⟨sK ti (k+1),?_,rfl⟩)));rw[hs];simp only[q26 v.tb hn hk,jC (show k < 2 ^ 62 by omega)]
  ·intro s hs;exact kD (qCY (show ¬ (ti.length:Int) < (ti.length:Int) by omega)) (qC ⟨_,rfl,qC ⟨_,rfl,hs⟩⟩)
 ·rintro t rfl;refine aM fi.length (fun k (s:Int)=>(s,(k:Int))) (fun i s=>s=sK ti ti.length+lsS fi se ti.length i) (sK ti ti.length) rfl (Int.add_zero _).symm ?_ ?_
  ·intro i s hi hs;refine xV (qAG (show (i:Int) < (fi.length:Int) by omega)) (zH i rfl hi (zB hi ?_));refine aM se.length (fun k (s:Int)=>(s,(k:Int))) (fun k s=>s=lsK fi se i k) fi[i] rfl (gDE hi).symm ?_ ?_
   ·intro k s hk hs;have hkr:i < se[k].length:=by have:=v.r k hk;rw[gDL hk] at this;omega
    have e:lsK fi se i (k+1)=if k=i then lsK fi se i k else if seG se k i < lsK fi se i k then seG se k i else lsK fi se i k:=rfl;refine xV (qAG (show (k:Int) < (se.length:Int) by omega)) (zH k rfl hk (zB hk (yV (fun q=>zH i rfl hkr (zB hkr (qC ⟨lsK fi se i (k+1),?_,rfl⟩))) fun q=>qC ⟨lsK fi se i (k+1),?_,rfl⟩)))
    ·have q:k≠i:=fun h=>by rw[h] at q;simp at q
     rw[e,if_neg q,zDN,hs,show seG se k i=se[k][i] by unfold seG;rw[gDL hk,gDE hkr]];simp only[jC (show k < 2 ^ 62 by omega)]
    ·have q:k=i:=by rw[bne_eq_false_iff_eq] at q;omega
     rw[e,if_pos q,hs];simp only[jC (show k < 2 ^ 62 by omega)]
   ·intro s2 hs2;refine kD (qCY (show ¬ (se.length:Int) < (se.length:Int) by omega)) (qC ⟨_,rfl,qC ⟨sK ti ti.length+lsS fi se ti.length (i+1),?_,rfl⟩⟩);rw[hs,hs2,hsl];simp only[zDY v (show i < ti.length by omega),jC (show i < 2 ^ 62 by omega)]
  ·intro s hs;refine kD (qCY (show ¬ (fi.length:Int) < (fi.length:Int) by omega)) (qC ⟨_,rfl,?_⟩);show OkT (zE9.ret (s,(0:Int))) _;refine qC ?_;rw[hs,hfl];rfl
end Go.Proofs.YtpnecffgnjijjaaGreatDoor
