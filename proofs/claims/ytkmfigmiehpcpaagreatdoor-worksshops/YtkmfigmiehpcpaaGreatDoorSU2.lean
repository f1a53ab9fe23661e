/- Plain laws of chapter 9: valid shops, the time of a sequence, the bound, permutations. Conditions: none. -/
import Derived.Test.YtkmfigmiehpcpaaGreatDoorSU1
set_option linter.all false
set_option maxRecDepth 10000
set_option maxHeartbeats 100000000
namespace Go.Proofs.YtkmfigmiehpcpaaGreatDoor
open Go Go.Idl Go.Sv Go.Proofs
def seG (se:List (List Int))(a b:Nat):Int:=(se.getD a []).getD b 0
structure Vs (ti fi:List Int) (se:List (List Int)):Prop where
 n1:1<=ti.length
 n2:ti.length<=32
 f:fi.length=ti.length
 s:se.length=ti.length
 r:∀ k,k < se.length->(se.getD k []).length=ti.length
 tb:Bw ti 0 1000000
 fb:Bw fi 0 1000000
 rb:∀ k,k < se.length->Bw (se.getD k []) 0 1000000
 dg:∀ k,k < se.length->seG se k k=0
theorem q42 {l:List Int}(h:tB l=false):Bw l 0 1000000:=fun x hx=>by
 have:=zQS.1 h x hx;unfold outs at this;simp at this;exact this
theorem q33 {se:List (List Int)}:∀ {n:Nat},qMX se n=false->∀ k,k < n->qHO (se.getD k []) k=false
 | 0,_,k,hk=>absurd hk (zP0 _)
 | n+1,h,k,hk=>by
   unfold qMX at h;rw[zQF] at h;by_cases q:k=n
   ·subst q;exact h.2
   ·exact q33 h.1 k (by omega)
theorem qVU {ti fi:List Int}{se:List (List Int)}(h:aG ti fi se=0):Vs ti fi se:=by
 unfold aG at h;split at h
 ·cases h
 split at h
 ·cases h
 split at h
 ·cases h
 split at h
 ·cases h
 split at h
 ·cases h
 split at h
 ·cases h
 rename_i h1 h2 h3 h4 h5 h6;rw[zRA] at h4 h5 h6;rw[zQF] at h5;have hse:se.length=ti.length:=by omega
 have hrow:=q33 h6;refine⟨by omega,by omega,by omega,hse,fun k hk=>?_,q42 h5.1,q42 h5.2,fun k hk=>?_,fun k hk=>?_⟩
 ·have:=zQS.1 h4 _ (zPE hk);rw[zRA,bne_eq_false_iff_eq] at this;rw[gDL hk];exact this
 ·have:=hrow k hk;unfold qHO at this;rw[zQF] at this;exact q42 this.1
 ·have:=hrow k hk;unfold qHO at this;rw[zQF,bne_eq_false_iff_eq] at this;exact this.2
theorem Vs.se {ti fi:List Int}{se:List (List Int)}(v:Vs ti fi se){a b:Nat}(ha:a < ti.length)(hb:b < ti.length):0<=seG se a b∧seG se a b<=1000000:=by
 have h1:a < se.length:=by rw[v.s];exact ha
 exact (v.rb a h1).getD (by rw[v.r a h1];exact hb)
def tmK (fi:List Int)(se:List (List Int))(o:List Int):Nat->Int
 | 0=>0
 | k+1=>tmK fi se o k+if k=0 then fi.getD (o.getD k 0).toNat 0 else seG se (o.getD (k - 1) 0).toNat (o.getD k 0).toNat
def tm (ti fi:List Int)(se:List (List Int))(o:List Int):Int:=sK ti ti.length+tmK fi se o o.length
def InR (o:List Int)(n:Nat):Prop:=∀ j,j < o.length->0<=o.getD j 0∧o.getD j 0 < n
theorem InR.at {o:List Int}{n j:Nat}(h:InR o n)(hj:j < o.length):∃ K:Nat,o[j]=(K:Int)∧K < n:=by
 have:=h j hj;rw[gDE hj] at this;exact⟨o[j].toNat,by omega,by omega⟩
theorem qN8 {ti fi:List Int}{se:List (List Int)}{o:List Int}(v:Vs ti fi se)(h:InR o ti.length):∀ k,k<=o.length->0<=tmK fi se o k∧tmK fi se o k<=1000000*k
 | 0,_=>by
   show (0:Int)<=0∧(0:Int)<=_;omega
 | k+1,hk=>by
   have ih:=qN8 v h k (by omega);have h1:=h k (by omega);show 0<=tmK fi se o k+(if k=0 then _ else _)∧tmK fi se o k+(if k=0 then _ else _)<=_;split
   ·have:=v.fb.getD (show (o.getD k 0).toNat < fi.length by rw[v.f];omega);omega
   ·have h2:=h (k - 1) (by omega);have:=v.se (show (o.getD (k - 1) 0).toNat < ti.length by omega) (show (o.getD k 0).toNat < ti.length by omega);omega
theorem qOJ {l:List Int}(h:Bw l 0 1000000):∀ k,k<=l.length->0<=sK l k∧sK l k<=1000000*k:=fun k hk=>by
 have:=q8P h k hk;rw[Int.zero_mul] at this;exact this
theorem q6K {ti fi:List Int}{se:List (List Int)}{o:List Int}(v:Vs ti fi se)(h:InR o ti.length)(hl:o.length<=100):0<=tm ti fi se o∧tm ti fi se o<=200000000:=by
 have h1:=qOJ v.tb _ (zNV _);have h2:=qN8 v h _ (zNV _);have h3:=v.n2;unfold tm;omega
theorem qXI {l:List Int}(h:Bw l 0 1000000)(hl:l.length<=32){k:Nat}(hk:k < l.length):IntKind.i64.wrap (sK l k+l[k])=sK l (k+1):=by
 have h1:=qOJ h k (by omega);have h2:=h.get hk;rw[show sK l (k+1)=sK l k+l.getD k 0 from rfl,gDE hk,qNG (by omega) (by omega)]
theorem h46 {l:List Int}(h:Bw l 0 1000000)(hl:l.length<=32):H46 l=some (sK l l.length):=by
 refine OkT.eq ?_;show OkT (G46 l) _;unfold G46;refine vC l.length (fun k (s:Int)=>(s,(k:Int))) (fun k s=>s=sK l k) 0 rfl rfl ?_ ?_
 ·intro k s hk hs;refine zS (dW (show (k:Int) < (l.length:Int) by omega)) (qQ k rfl hk (qP hk (qA ⟨sK l (k+1),?_,rfl⟩)));rw[hs];simp only[qXI h hl hk,xO (show k < 2 ^ 62 by omega)]
 ·intro s hs;exact yH (mX (show ¬ (l.length:Int) < (l.length:Int) by omega)) (qA ⟨_,rfl,qA hs⟩)
theorem q2I {ti fi:List Int}{se:List (List Int)}{o:List Int}(v:Vs ti fi se)(h:InR o ti.length)(hl:o.length<=100){k:Nat}(hk:k < o.length){x:Int}(hx:x=if k=0 then fi.getD (o.getD k 0).toNat 0 else seG se (o.getD (k - 1) 0).toNat (o.getD k 0).toNat):IntKind.i64.wrap (sK ti ti.length+tmK fi se o k+x)=sK ti ti.length+tmK fi se o (k+1):=by
 have h1:=qOJ v.tb _ (zNV _);have h2:=qN8 v h (k+1) hk;have h3:=qN8 v h k (by omega);have h4:=v.n2;have e:tmK fi se o (k+1)=tmK fi se o k+x:=by rw[hx];rfl
 rw[e] at h2 ⊢;rw[qNG (by omega) (by omega)];omega
theorem h77 {ti fi:List Int}{se:List (List Int)}{o:List Int}(v:Vs ti fi se)(h:InR o ti.length)(hl:o.length<=100):H77 ((ti,fi,se),o)=some (tm ti fi se o):=by
 have hn:=v.n2;refine OkT.eq ?_;show OkT (G77 (ti,fi,se) o) _;unfold G77;dsimp only;refine yG (fun t=>t=sK ti ti.length) ?_ ?_
 ·refine vC ti.length (fun k (s:Int)=>(s,(k:Int))) (fun k s=>s=sK ti k) 0 rfl rfl ?_ ?_
  ·intro k s hk hs;refine zS (dW (show (k:Int) < (ti.length:Int) by omega)) (qQ k rfl hk (qP hk (qA ⟨sK ti (k+1),?_,rfl⟩)));rw[hs];simp only[qXI v.tb hn hk,xO (show k < 2 ^ 62 by omega)]
  ·intro s hs;exact yH (mX (show ¬ (ti.length:Int) < (ti.length:Int) by omega)) (qA ⟨_,rfl,qA ⟨_,rfl,hs⟩⟩)
 ·rintro t rfl;refine vC o.length (fun k (s:Int)=>(s,(k:Int))) (fun k s=>s=sK ti ti.length+tmK fi se o k) (sK ti ti.length) rfl (Int.add_zero _).symm ?_ ?_
  ·intro k s hk hs;obtain⟨K,hK,hKn⟩:=h.at hk;have hKg:o.getD k 0=(K:Int):=by rw[gDE hk,hK]
   refine zS (dW (show (k:Int) < (o.length:Int) by omega)) (qQ k rfl hk (qP hk ?_));refine zU (fun q=>?_) fun q=>?_
   ·have q:k=0:=by simpa using q
    have hKf:K < fi.length:=by rw[v.f];exact hKn
    refine qQ K hK hKf (qP hKf (qA ⟨sK ti ti.length+tmK fi se o (k+1),?_,rfl⟩));rw[hs];simp only[q2I v h hl hk (x:=fi[K]) (by rw[if_pos q,hKg,zPU,gDE hKf]),xO (show k < 2 ^ 62 by omega)]
   ·have q:k≠0:=by simpa using q
    have hk1:k - 1 < o.length:=by omega
    obtain⟨M,hM,hMn⟩:=h.at hk1;have hMg:o.getD (k - 1) 0=(M:Int):=by rw[gDE hk1,hM]
    have hMs:M < se.length:=by rw[v.s];exact hMn
    have hKr:K < se[M].length:=by have:=v.r M hMs;rw[gDL hMs] at this;rw[this];exact hKn
    have hw:IntKind.i64.wrap ((k:Int) - 1)=((k - 1:Nat):Int):=by rw[qNG (by omega) (by omega)];omega
    refine qQ (k - 1) hw hk1 (qP hk1 (qQ M hM hMs (qP hMs (qQ K hK hKr (qP hKr (qA ⟨sK ti ti.length+tmK fi se o (k+1),?_,rfl⟩))))));rw[hs];simp only[q2I v h hl hk (x:=se[M][K]) (by rw[if_neg q,hKg,hMg,zPU,zPU];unfold seG;rw[gDL hMs,gDE hKr]),xO (show k < 2 ^ 62 by omega)]
  ·intro s hs;exact yH (mX (show ¬ (o.length:Int) < (o.length:Int) by omega)) (qA ⟨_,rfl,qA hs⟩)
theorem h30 {ti fi:List Int}{se:List (List Int)}{o:List Int}(v:Vs ti fi se)(h:InR o ti.length)(hl:o.length<=100):H30 ((ti,fi,se),o)=some (tm ti fi se o):=by
 have hn:=v.n2;refine OkT.eq ?_;show OkT (G30 (ti,fi,se) o) _;unfold G30;dsimp only;refine qN (h46 v.tb hn) ?_;refine vC o.length (fun k (s:Int)=>(s,(k:Int))) (fun k s=>s=sK ti ti.length+tmK fi se o k) (sK ti ti.length) rfl (Int.add_zero _).symm ?_ ?_
 ·intro k s hk hs;obtain⟨K,hK,hKn⟩:=h.at hk;have hKg:o.getD k 0=(K:Int):=by rw[gDE hk,hK]
  refine zS (dW (show (k:Int) < (o.length:Int) by omega)) ?_;refine zU (fun q=>?_) fun q=>?_
  ·have q:k=0:=by simpa using q
   subst q;have hKf:K < fi.length:=by rw[v.f];exact hKn
   refine qQ 0 rfl hk (qP hk (qQ K hK hKf (qP hKf (qA ⟨sK ti ti.length+tmK fi se o (0+1),?_,rfl⟩))));rw[hs];simp only[q2I v h hl hk (x:=fi[K]) (by rw[if_pos rfl,hKg,zPU,gDE hKf]),xO (show 0 < 2 ^ 62 by omega)]
  ·have q:k≠0:=by simpa using q
   have hk1:k - 1 < o.length:=by omega
   obtain⟨M,hM,hMn⟩:=h.at hk1;have hMg:o.getD (k - 1) 0=(M:Int):=by rw[gDE hk1,hM]
   have hMs:M < se.length:=by rw[v.s];exact hMn
   have hKr:K < se[M].length:=by have:=v.r M hMs;rw[gDL hMs] at this;rw[this];exact hKn
   have hw:IntKind.i64.wrap ((k:Int) - 1)=((k - 1:Nat):Int):=by rw[qNG (by omega) (by omega)];omega
   refine qQ (k - 1) hw hk1 (qP hk1 (qQ M hM hMs (qP hMs (qQ k rfl hk (qP hk (qQ K hK hKr (qP hKr (qA ⟨sK ti ti.length+tmK fi se o (k+1),?_,rfl⟩))))))));rw[hs];simp only[q2I v h hl hk (x:=se[M][K]) (by rw[if_neg q,hKg,hMg,zPU,zPU];unfold seG;rw[gDL hMs,gDE hKr]),xO (show k < 2 ^ 62 by omega)]
 ·intro s hs;exact yH (mX (show ¬ (o.length:Int) < (o.length:Int) by omega)) (qA ⟨_,rfl,qA hs⟩)
def lsK (fi:List Int)(se:List (List Int))(i:Nat):Nat->Int
 | 0=>fi.getD i 0
 | k+1=>if k=i then lsK fi se i k else if seG se k i < lsK fi se i k then seG se k i else lsK fi se i k
def lsS (fi:List Int)(se:List (List Int))(n:Nat):Nat->Int
 | 0=>0
 | i+1=>lsS fi se n i+lsK fi se i n
def lst (ti fi:List Int)(se:List (List Int)):Int:=sK ti ti.length+lsS fi se ti.length ti.length
theorem qX3 {ti fi:List Int}{se:List (List Int)}(v:Vs ti fi se){i:Nat}(hi:i < ti.length):∀ k,k<=ti.length->0<=lsK fi se i k∧lsK fi se i k<=1000000
 | 0,_=>v.fb.getD (by rw[v.f];exact hi)
 | k+1,hk=>by
   have ih:=qX3 v hi k (by omega);have:=v.se (show k < ti.length by omega) hi;show 0<=(if k=i then _ else if _ < _ then _ else _)∧(if k=i then _ else if _ < _ then _ else _)<=_;split
   ·exact ih
   ·split
    ·exact this
    ·exact ih
theorem q35 {ti fi:List Int}{se:List (List Int)}(v:Vs ti fi se):∀ i,i<=ti.length->0<=lsS fi se ti.length i∧lsS fi se ti.length i<=1000000*i
 | 0,_=>by
   show (0:Int)<=0∧(0:Int)<=_;omega
 | i+1,hi=>by
   have ih:=q35 v i (by omega);have:=qX3 v (show i < ti.length by omega) ti.length (zNV _);show 0<=lsS fi se ti.length i+_∧lsS fi se ti.length i+_<=_;omega
theorem q92 {ti fi:List Int}{se:List (List Int)}(v:Vs ti fi se){i:Nat}(hi:i < ti.length):IntKind.i64.wrap (sK ti ti.length+lsS fi se ti.length i+lsK fi se i ti.length)=sK ti ti.length+lsS fi se ti.length (i+1):=by
 have h1:=qOJ v.tb _ (zNV _);have h2:=q35 v i (by omega);have h3:=qX3 v hi ti.length (zNV _);have h4:=v.n2;rw[show lsS fi se ti.length (i+1)=lsS fi se ti.length i+lsK fi se i ti.length from rfl,qNG (by omega) (by omega)];omega
theorem q9L {a b:Int}:(bif decide (a < b) then a else b)=if a < b then a else b:=by
 by_cases h:a < b
 ·rw[if_pos h,decide_eq_true h];rfl
 ·rw[if_neg h,decide_eq_false h];rfl
theorem zD3 {ti fi:List Int}{se:List (List Int)}(hs:Sb ti fi se)(hb:aG ti fi se≠0):H26 (ti,fi,se)=some (0,aG ti fi se):=by
 refine OkT.eq ?_;show OkT (G26 (ti,fi,se)) _;unfold G26;dsimp only;exact qN (h24 hs) (zS (bne_iff_ne.2 hb) (qA rfl))
theorem h26 {ti fi:List Int}{se:List (List Int)}(hs:Sb ti fi se)(hb:aG ti fi se=0):H26 (ti,fi,se)=some (lst ti fi se,0):=by
 have v:=qVU hb;have hn:=v.n2;have hfl:=v.f;have hsl:=v.s;refine OkT.eq ?_;show OkT (G26 (ti,fi,se)) _;unfold G26;dsimp only;refine qN (h24 hs) ?_;rw[hb];refine yH rfl ?_;refine yG (fun t=>t=sK ti ti.length) ?_ ?_
 ·refine vC ti.length (fun k (s:Int)=>(s,(k:Int))) (fun k s=>s=sK ti k) 0 rfl rfl ?_ ?_
  ·intro k s hk hs;refine zS (dW (show (k:Int) < (ti.length:Int) by omega)) (qQ k rfl hk (qP hk (qA ⟨sK ti (k+1),?_,rfl⟩)));rw[hs];simp only[qXI v.tb hn hk,xO (show k < 2 ^ 62 by omega)]
  ·intro s hs;exact yH (mX (show ¬ (ti.length:Int) < (ti.length:Int) by omega)) (qA ⟨_,rfl,qA ⟨_,rfl,hs⟩⟩)
 ·rintro t rfl;refine vC fi.length (fun k (s:Int)=>(s,(k:Int))) (fun i s=>s=sK ti ti.length+lsS fi se ti.length i) (sK ti ti.length) rfl (Int.add_zero _).symm ?_ ?_
  ·intro i s hi hs;refine zS (dW (show (i:Int) < (fi.length:Int) by omega)) (qQ i rfl hi (qP hi ?_));refine vC se.length (fun k (s:Int)=>(s,(k:Int))) (fun k s=>s=lsK fi se i k) fi[i] rfl (gDE hi).symm ?_ ?_
   ·intro k s hk hs;have hkr:i < se[k].length:=by have:=v.r k hk;rw[gDL hk] at this;omega
    have e:lsK fi se i (k+1)=if k=i then lsK fi se i k else if seG se k i < lsK fi se i k then seG se k i else lsK fi se i k:=rfl;refine zS (dW (show (k:Int) < (se.length:Int) by omega)) (qQ k rfl hk (qP hk (zU (fun q=>qQ i rfl hkr (qP hkr (qA ⟨lsK fi se i (k+1),?_,rfl⟩))) fun q=>qA ⟨lsK fi se i (k+1),?_,rfl⟩)))
    ·have q:k≠i:=fun h=>by rw[h] at q;simp at q
     rw[e,if_neg q,q9L,hs,show seG se k i=se[k][i] by unfold seG;rw[gDL hk,gDE hkr]];simp only[xO (show k < 2 ^ 62 by omega)]
    ·have q:k=i:=by rw[bne_eq_false_iff_eq] at q;omega
     rw[e,if_pos q,hs];simp only[xO (show k < 2 ^ 62 by omega)]
   ·intro s2 hs2;refine yH (mX (show ¬ (se.length:Int) < (se.length:Int) by omega)) (qA ⟨_,rfl,qA ⟨sK ti ti.length+lsS fi se ti.length (i+1),?_,rfl⟩⟩);rw[hs,hs2,hsl];simp only[q92 v (show i < ti.length by omega),xO (show i < 2 ^ 62 by omega)]
  ·intro s hs;refine yH (mX (show ¬ (fi.length:Int) < (fi.length:Int) by omega)) (qA ⟨_,rfl,?_⟩);show OkT (zED.ret (s,(0:Int))) _;refine qA ?_;rw[hs,hfl];rfl
theorem h29 {ti fi:List Int}{se:List (List Int)}(v:Vs ti fi se):H29 (ti,fi,se)=some (lst ti fi se):=by
 have hn:=v.n2;have hfl:=v.f;have hsl:=v.s;refine OkT.eq ?_;show OkT (G29 (ti,fi,se)) _;unfold G29;dsimp only;refine qN (h46 v.tb hn) ?_;refine vC ti.length (fun k (s:Int)=>(s,(k:Int))) (fun i s=>s=sK ti ti.length+lsS fi se ti.length i) (sK ti ti.length) rfl (Int.add_zero _).symm ?_ ?_
 ·intro i s hi hs;have hif:i < fi.length:=by omega
  refine zS (dW (show (i:Int) < (ti.length:Int) by omega)) (qQ i rfl hif (qP hif ?_));refine vC ti.length (fun k (s:Int)=>(s,(k:Int))) (fun k s=>s=lsK fi se i k) fi[i] rfl (gDE hif).symm ?_ ?_
  ·intro k s hk hs;have hks:k < se.length:=by omega
   have hkr:i < se[k].length:=by have:=v.r k hks;rw[gDL hks] at this;omega
   have e:lsK fi se i (k+1)=if k=i then lsK fi se i k else if seG se k i < lsK fi se i k then seG se k i else lsK fi se i k:=rfl;refine zS (dW (show (k:Int) < (ti.length:Int) by omega)) (zU (fun q=>qQ k rfl hks (qP hks (qQ i rfl hkr (qP hkr (qA ⟨lsK fi se i (k+1),?_,rfl⟩))))) fun q=>qA ⟨lsK fi se i (k+1),?_,rfl⟩)
   ·have q:k≠i:=fun h=>by rw[h] at q;simp at q
    rw[e,if_neg q,q9L,hs,show seG se k i=se[k][i] by unfold seG;rw[gDL hks,gDE hkr]];simp only[xO (show k < 2 ^ 62 by omega)]
   ·have q:k=i:=by rw[bne_eq_false_iff_eq] at q;omega
    rw[e,if_pos q,hs];simp only[xO (show k < 2 ^ 62 by omega)]
  ·intro s2 hs2;refine yH (mX (show ¬ (ti.length:Int) < (ti.length:Int) by omega)) (qA ⟨_,rfl,qA ⟨sK ti ti.length+lsS fi se ti.length (i+1),?_,rfl⟩⟩);rw[hs,hs2];simp only[q92 v hi,xO (show i < 2 ^ 62 by omega)]
 ·intro s hs;exact yH (mX (show ¬ (ti.length:Int) < (ti.length:Int) by omega)) (qA ⟨_,rfl,qA hs⟩)
end Go.Proofs.YtkmfigmiehpcpaaGreatDoor
