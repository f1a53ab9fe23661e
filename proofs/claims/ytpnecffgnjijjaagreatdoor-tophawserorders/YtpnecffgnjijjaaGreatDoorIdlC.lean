/- Operations of the ideal interpreter against the model's own, first part. Conditions: none. -/
import Derived.Test.YtpnecffgnjijjaaGreatDoorIdlA
import Derived.Laws.Cells
import Derived.Laws.Entries
import Derived.Laws.AppendOwn
set_option linter.all false
namespace Go.Idl
variable {P:Program}
variable {H H':IH}{a a' v v':Value}{b i n:Nat}{f:Inj}{l vs:List Value}{t:TypeId}{w:World}
theorem qBX (h:szT P t=some n):P.cellsOf t=n:=by
 unfold szT at h;unfold Program.cellsOf;rw[h];rfl
theorem qO0 (h:szT P t=some n):∃ i,P.info? t=some i∧i.size=n:=by
 unfold szT at h
 cases hi:P.info? t with
 | none=>rw[hi] at h;cases h
 | some i=>rw[hi] at h;simp at h;exact⟨i,rfl,h⟩
theorem zV (h:szT P t=some n)(w:World):(sizeOf t).run P w=.ok n w:=by
 obtain⟨i,hi,hs⟩:=qO0 h;simp[sizeOf,typeInfo,hi,hs]
theorem wU {z:Value}(h:fD P t=some z)(w:World):(zeroValue t).run P w=.ok z w:=by
 unfold fD at h
 cases hi:P.info? t with
 | none=>rw[hi] at h;cases h
 | some i=>rw[hi] at h;simp at h;simp[zeroValue,typeInfo,hi,h]
theorem qG5 {b:Bool}(h:qPK P t=some b)(w:World):(isAgg t).run P w=.ok b w:=by
 unfold qPK at h
 cases hu:P.underlying t with
 | none=>rw[hu] at h;cases h
 | some d =>
   rw[hu] at h;cases d <;> simp at h <;> subst h <;> simp[isAgg,run_underlying hu]
theorem yX (r o n:Nat):(⟨r,o,none⟩:Addr).add n=⟨r,o+n,none⟩:=by
 unfold Addr.add;split <;> simp_all
theorem q6O {c:Array Value}:c.toList[i]?=c[i]?:=by simp
theorem qZB (h:H.load b i=some v):∃ c el fz,H.get b=some (.cells c el fz)∧c[i]?=some v:=by
 unfold IH.load at h;split at h
 ·rename_i c el fz hg;exact⟨c,el,fz,hg,h⟩
 ·cases h
theorem nV (h:H.loads b i n=some l):∃ c el fz,H.get b=some (.cells c el fz)∧i+n<=c.size∧l=(c.toList.drop i).take n:=by
 unfold IH.loads at h;split at h
 ·rename_i c el fz hg;split at h
  ·rename_i hle;cases h;exact⟨c,el,fz,hg,hle,rfl⟩
  ·cases h
 ·cases h
theorem q2L {e:Emb}(hR:Rel P f H w)(hb:f b=some e)(h:H.load b i=some v) :
 ∃ v',w.cell? ⟨e.r,i+e.shift,none⟩=some v'∧zFB P f v v':=by
 obtain⟨c,el,fz,hg,hc⟩:=qZB h;obtain⟨c',el',fz',hr,_,_,hcv,_,_⟩:=hR.obj b e _ hb hg;obtain⟨v',h1,h2⟩:=hcv i v hc;exact⟨v',by simp[World.cell?,hr,zPR i e.shift,h1],h2⟩
theorem aX {e:Emb}(hR:Rel P f H w)(hb:f b=some e)(h:H.loads b i n=some l) :
 ∃ l',qE P f l l'∧l'.length=n∧∀ j v,l'[j]?=some v->w.cell? ((⟨e.r,i+e.shift,none⟩:Addr).add j)=some v:=by
 obtain⟨c,el,fz,hg,hle,rfl⟩:=nV h;obtain⟨c',el',fz',hr,_,hsz,hcv,_,_⟩:=hR.obj b e _ hb hg;refine⟨(c'.toList.drop (e.shift+i)).take n,⟨?_,?_⟩,?_,?_⟩
 ·simp;omega
 ·intro j v v' h1 h2;simp only[zOO,zOQ] at h1 h2;split at h1
  ·rename_i hj;rw[if_pos hj] at h2;rw[q6O] at h1 h2;obtain⟨u,hu1,hu2⟩:=hcv (i+j) v h1;rw[show e.shift+(i+j)=e.shift+i+j by omega] at hu1;rw[hu1] at h2;cases h2;exact hu2
  ·cases h1
 ·simp;omega
 ·intro j v h1;simp only[zOO,zOQ] at h1;split at h1
  ·rw[q6O] at h1;rw[yX];simp only[World.cell?,hr];rw[show i+e.shift+j=e.shift+i+j by omega];simpa using h1
  ·cases h1
theorem zFB.zFX {o:Nat}(h:zFB P f (.pointer (some ⟨b,o,none⟩)) v'):∃ e,f b=some e∧v'=.pointer (some ⟨e.r,o+e.shift,none⟩):=by
 cases h with
 | base _ hp=>have hp':false=true:=hp;cases hp'
 | ptr h=>exact⟨_,h,rfl⟩
theorem qDV (hR:Rel P f H w)(h:uW P t a H=some v)(ha:zFB P f a a') :
 ∃ v',(Instr.loadAt t a').run P w=.ok v' w∧zFB P f v v':=by
 unfold uW at h;split at h
 ·rename_i b i;obtain⟨e,hb,rfl⟩:=ha.zFX;split at h
  ·rename_i hag;split at h
   ·rename_i n hn;split at h
    ·rename_i l hl;cases h;obtain⟨l',h1,h2,h3⟩:=aX hR hb hl;have hload:=run_loadCells_list (P:=P) w ⟨e.r,i+e.shift,none⟩ l' h3;rw[h2] at hload;refine⟨.agg l'.toArray,?_,.zHB (by simpa using h1)⟩;simp[Instr.loadAt,Instr.sureAddr,loadVar,qG5 hag,zV hn,hload]
    ·cases h
   ·cases h
  ·rename_i hag;obtain⟨v',h1,h2⟩:=q2L hR hb h;refine⟨v',?_,h2⟩;simp[Instr.loadAt,Instr.sureAddr,loadVar,qG5 hag,h1]
  ·cases h
 ·cases h
theorem q41 (w:World)(r:Nat)(o o':Obj):World.put (World.put w r o) r o'=World.put w r o':=by
 unfold World.put
 congr 1
 simp
theorem qLP (w:World)(r i:Nat)(cur:Array Value)(el:TypeId)(fz:Nat×Nat)(v:Value)(h:w.heap[r]?=some (.cells cur el fz)) :
 w.setCell ⟨r,i,none⟩ v=World.put w r (.cells (cur.setIfInBounds i v) el fz):=by
 have hlt:r < w.heap.size:=(zNB.1 h).1;have hv:w.heap[r]=.cells cur el fz:=(zNB.1 h).2;unfold World.setCell World.put
 congr 1
 apply zRG;intro j;rw[Array.getElem?_modify];by_cases hj:r=j
 ·subst hj;simp[hlt,hv]
 ·simp only[hj,if_false];rw[zO0 hj]
theorem nT (l:List Value)(i:Nat):overwrite l i []=l:=by simp[overwrite]
theorem eG (l:List Value)(i:Nat)(v:Value)(vs:List Value)(h:i < l.length):overwrite l i (v::vs)=overwrite (l.set i v) (i+1) vs:=by
 unfold overwrite;apply zOI;intro j;simp only[zQ6,zOO,zOQ,zNU,zOA,zOB,zNZ,zNK,List.getElem?_cons];by_cases h1:j < i
 ·have a1:j < min i l.length:=by omega
  have a2:j < min i l.length+(vs.length+1):=by omega
  have a3:j < min (i+1) l.length:=by omega
  have a4:j < min (i+1) l.length+vs.length:=by omega
  have a5:i≠j:=by omega
  simp[a1,a2,a3,a4,a5,h1];omega
 ·by_cases h2:j=i
  ·subst h2;have a1:¬ j < min j l.length:=by omega
   have a2:j < min j l.length+(vs.length+1):=by omega
   have a3:j < min (j+1) l.length:=by omega
   have a4:j < min (j+1) l.length+vs.length:=by omega
   have a6:j - min j l.length=0:=by omega
   simp[a1,a2,a3,a4,a6,h]
  ·have a1:¬ j < min i l.length:=by omega
   have a3:¬ j < min (i+1) l.length:=by omega
   have e1:j - min i l.length=(j - min (i+1) l.length)+1:=by omega
   have a5:¬ i=j:=by omega
   by_cases h3:j < min i l.length+(vs.length+1)
   ·have a4:j < min (i+1) l.length+vs.length:=by omega
    simp only[a1,a3,h3,a4,if_true,if_false,e1];simp
   ·have a4:¬ j < min (i+1) l.length+vs.length:=by omega
    simp only[a1,a3,h3,a4,if_false];have e2:i+(vs.length+1)+(j - (min i l.length+(vs.length+1)))=i+1+vs.length+(j - (min (i+1) l.length+vs.length)):=by omega
    rw[e2];have a7:¬ i=i+1+vs.length+(j - (min (i+1) l.length+vs.length)):=by omega
    simp[a7]
theorem vM (l:List Value)(i:Nat)(vs:List Value)(h:i+vs.length<=l.length):(overwrite l i vs).length=l.length:=by
 simp[overwrite];omega
theorem qSP (v:Value):v.oneCell'=oneCell v:=by cases v <;> rfl
theorem uM (r o:Nat)(el:TypeId)(fz:Nat×Nat):∀ (vs:List Value) (i:Nat) (cur:Array Value) (w:World),w.heap[r]?=some (.cells cur el fz) ->
 (∀ j,j < cur.size->¬(fz.1<=j∧j < fz.2))->o+i+vs.length<=cur.size->(∀ v∈vs,oneCell v=true) ->
 (storeCells ⟨r,o,none⟩ vs i).run P w=.ok () (World.put w r (.cells (overwrite cur.toList (o+i) vs).toArray el fz))
 | [],i,cur,w,hg,_,_,_=>by
   have e:World.put w r (.cells (overwrite cur.toList (o+i) []).toArray el fz)=w:=by
    rw[nT];unfold World.put;have hlt:r < w.heap.size:=(zNB.1 hg).1;have hv:w.heap[r]=.cells cur el fz:=(zNB.1 hg).2
    have:w.heap.setIfInBounds r (.cells cur.toList.toArray el fz)=w.heap:=by
     apply zRG;intro j;by_cases hj:r=j
     ·subst hj;simp[hlt,hv]
     ·rw[zO0 hj]
    rw[this]
   rw[e];rfl
 | v::vs,i,cur,w,hg,hfz,hl,h1=>by
   have hi:o+i < cur.size:=by simp at hl;omega
   have hlt:r < w.heap.size:=(zNB.1 hg).1;have hcell:w.cell? ⟨r,o+i,none⟩=some cur[o+i]:=by simp[World.cell?,hg,hi]
   have hfro:w.frozen? ⟨r,o+i,none⟩=false:=by
    have:=hfz (o+i) hi;obtain⟨lo,hi'⟩:=fz;simp only[World.frozen?,hg];simp only at this;rw[Bool.and_eq_false_iff];by_cases hx:lo<=o+i
    ·right;simp;omega
    ·left;simp;omega
   have hst:(store ((⟨r,o,none⟩:Addr).add i) v).run P w=.ok () (World.put w r (.cells (cur.setIfInBounds (o+i) v) el fz)):=by
    rw[yX,run_store P w _ v _ (by rw[qSP];exact h1 v (by simp)),hcell];simp[hfro,qLP w r (o+i) cur el fz v hg]
   have ih:=uM r o el fz vs (i+1) (cur.setIfInBounds (o+i) v) (World.put w r (.cells (cur.setIfInBounds (o+i) v) el fz))
    (by rw[heap_put hlt];simp) (fun j hj=>hfz j (by simpa using hj)) (by simp at hl ⊢;omega) (fun x hx=>h1 x (by simp[hx]))
   simp only[storeCells,Sem.run_bind,hst,Result.andThen_ok,ih,q41];rw[eG _ _ _ _ (by simpa using hi)];simp[zPV,zOW]
theorem qEN {vs:List Value}(h:H.stores b i vs=some H'):∃ c el fz,H.get b=some (.cells c el fz)∧i+vs.length<=c.size∧aZ fz=true∧H.base<=b ∧
 (∀ v∈vs,oneCell v=true)∧H'=H.put b (.cells (overwrite c.toList i vs).toArray el fz):=by
 unfold IH.stores at h;split at h
 ·rename_i c el fz hg;split at h
  ·rename_i hc;cases h;simp only[zMY,decide_eq_true_eq,zM1] at hc;exact⟨c,el,fz,hg,hc.1.1.1,hc.1.1.2,hc.1.2,hc.2,rfl⟩
  ·cases h
 ·cases h
theorem zFB.oneCell {f:Inj}{v v':Value}(h:zFB P f v v')(h1:oneCell v=true):oneCell v'=true:=by
 cases h <;> first | rfl | exact h1 | (simp[unk,Idl.oneCell] at h1;done) | (simp[Idl.oneCell] at h1)
theorem qVA (l:List Value)(i:Nat)(vs:List Value)(h:i+vs.length<=l.length)(j:Nat) :
 (overwrite l i vs)[j]?=if j < i then l[j]? else if j < i+vs.length then vs[j - i]? else l[j]?:=by
 unfold overwrite;simp only[zQ6,zOO,zOQ,zOA,zNK];by_cases h1:j < i
 ·simp[h1,show j < min i l.length by omega,show j < min i l.length+vs.length by omega]
 ·by_cases h2:j < i+vs.length
  ·simp[h1,h2,show j < min i l.length+vs.length by omega,show ¬ j < min i l.length by omega,show j - min i l.length=j - i by omega]
  ·simp only[h1,h2,if_false,show ¬ j < min i l.length+vs.length by omega]
   congr 1;omega
theorem pY {e:Emb}{vs':List Value}(hR:Rel P f H w)(hb:f b=some e)(h:H.stores b i vs=some H')(hv:qE P f vs vs') :
 ∃ w',(storeCells ⟨e.r,i+e.shift,none⟩ vs').run P w=.ok () w'∧Rel P f H' w'∧Grow f H w f H' w'∧Keep f H H':=by
 obtain⟨c,el,fz,hg,hle,hfree,hbase,h1,rfl⟩:=qEN h;obtain⟨c',el',fz',hr,hN,hsz,hcv,hfr,hex⟩:=hR.obj b e _ hb hg;obtain⟨hro,hel,hnf⟩:=hfr hfree;have hlen:vs'.length=vs.length:=hv.1.symm;have hlt:e.r < w.heap.size:=hR.bound b e hb
 have hrun:=uM (P:=P) e.r (i+e.shift) el' fz' vs' 0 c' w hr hnf (by omega) (fun v hv'=>by
  obtain⟨j,hj,rfl⟩:=zN3.1 hv';have hj2:j < vs.length:=by omega
  exact (hv.2 j vs[j] vs'[j] (zM2 hj2) (zM2 hj)).oneCell (h1 _ (zOG hj2)))
 simp only[zPL] at hrun;refine⟨_,hrun,?_⟩
 have hO:tX P f e (.cells (overwrite c.toList i vs).toArray el fz) (some (.cells (overwrite c'.toList (i+e.shift) vs').toArray el' fz')):=by
  have l1:(overwrite c.toList i vs).length=c.size:=by rw[vM _ _ _ (by simpa using hle)];simp
  have l2:(overwrite c'.toList (i+e.shift) vs').length=c'.size:=by rw[vM _ _ _ (by simp;omega)];simp
  refine⟨_,_,_,rfl,by simpa [l2] using hN,by simp[l1,l2];exact hsz,?_,fun hf=>⟨hro,hel,by simpa [l2] using hnf⟩,fun hf=>by simpa [l1,l2] using hex hf⟩;intro j v hj;simp only[zO3] at hj ⊢;rw[qVA _ _ _ (by simpa using hle)] at hj;rw[qVA _ _ _ (by simp;omega)];by_cases a1:j < i
  ·rw[if_pos a1] at hj;rw[if_pos (by omega),q6O];rw[q6O] at hj;exact hcv j v hj
  ·rw[if_neg a1] at hj;rw[if_neg (by omega)];by_cases a2:j < i+vs.length
   ·rw[if_pos a2] at hj;rw[if_pos (by omega),show e.shift+j - (i+e.shift)=j - i by omega];obtain⟨u,hu1,hu2⟩:=hv.get hj;exact⟨u,hu1,hu2⟩
   ·rw[if_neg a2] at hj;rw[if_neg (by omega),q6O];rw[q6O] at hj;exact hcv j v hj
 exact Rel.put hR hb hg rfl hro hO (fun x=>heap_put hlt) (by simp[World.put])
theorem qMH (hR:Rel P f H w)(h:gY P t a v H=some H')(ha:zFB P f a a')(hv:zFB P f v v') :
 ∃ w',(Instr.storeAt t a' v').run P w=.ok () w'∧Rel P f H' w'∧Grow f H w f H' w'∧Keep f H H':=by
 unfold gY at h;split at h
 ·rename_i b i;obtain⟨e,hb,rfl⟩:=ha.zFX;split at h
  ·rename_i hs
   have hnt:zI v=true:=by
    cases v <;> first | rfl | skip
    obtain⟨c,el,fz,_,_,_,_,h1,_⟩:=qEN h;have:=h1 _ (zNT.2 rfl);simp[oneCell] at this
   have hc:=hv.cells hnt;obtain⟨w',h1,h2⟩:=pY hR hb h hc;refine⟨w',?_,h2⟩;have hsz:v'.cells.size=v.cells.size:=by have:=hc.1;simpa using this.symm
   simp[Instr.storeAt,Instr.sureAddr,storeVar,zV hs,hsz,h1]
  ·cases h
 ·cases h
end Go.Idl
namespace Go.Idl
variable {P:Program}
variable {H H':IH}{b:Nat}{elem t:TypeId}{f:Inj}{v:Value}{w:World}
theorem jN {z:Value}(h:qCC P t=some z):fD P t=some z∧zQ z.cells.toList=true:=by
 unfold qCC at h;split at h
 ·rename_i z' hz;split at h
  ·rename_i hp;cases h;exact⟨hz,hp⟩
  ·cases h
 ·cases h
def Post (P:Program)(f:Inj)(H:IH)(w:World)(v:Value)(H':IH)(r:Result Value):Prop :=
 ∃ v' w' f',r=.ok v' w'∧Rel P f' H' w'∧Grow f H w f' H' w'∧zFB P f' v v'∧Keep f H H'
theorem Post.same {v':Value}{r:Result Value}(hR:Rel P f H w)(h:r=.ok v' w)(hv:zFB P f v v'):Post P f H w v H r :=
 ⟨v',w,f,h,hR,.refl _ _ _,hv,.refl _ _⟩
theorem qHK {c c':Array Value}(el:TypeId)(hR:Rel P f H w)(hc:qE P f c.toList c'.toList) :
 ∃ e:Emb,e.r=w.heap.size∧e.shift=0∧Rel P (f.add H.size e) (H.push (.cells c el)) (w.alloc (.cells c' el))∧Grow f H w (f.add H.size e) (H.push (.cells c el)) (w.alloc (.cells c' el))∧(f.add H.size e) H.size=some e ∧
  Keep f H (H.push (.cells c el)):=by
 have hnone:f H.size=none:=by
  cases hx:f H.size with
  | none=>rfl
  | some y=>have:=hR.dom _ _ hx;omega
 have hle:f.le (f.add H.size ⟨w.heap.size,0,c'.size,false⟩):=Inj.zGG hnone;have hs:c.size=c'.size:=by simpa using hc.1
 have hO:tX P (f.add H.size ⟨w.heap.size,0,c'.size,false⟩) ⟨w.heap.size,0,c'.size,false⟩ (.cells c el) (some (.cells c' el)):=by
  refine⟨c',el,(0,0),rfl,rfl,by simp[hs],?_,fun _=>⟨rfl,rfl,fun j _=>by simp⟩,fun _=>⟨rfl,hs⟩⟩;intro i v hv;obtain⟨v',h1,h2⟩:=hc.get (i:=i) (v:=v) (by simpa using hv);exact⟨v',by simpa using h1,h2.mono hle⟩
 obtain⟨h1,h2⟩:=Rel.push hR rfl hO;exact⟨⟨w.heap.size,0,c'.size,false⟩,rfl,rfl,h1,h2,Inj.add_same,.push⟩
theorem qGE {e:Emb}{r:Nat}(h:f b=some e)(hr:e.r=r)(hs:e.shift=0):zFB P f (.pointer (some ⟨b,0,none⟩)) (.pointer (some ⟨r,0,none⟩)):=by
 have:=zFB.ptr (P:=P) (o:=0) h
 rwa [hr,hs] at this
theorem q3V {e:Emb}{r:Nat}(l c:Nat)(h:f b=some e)(hr:e.r=r)(hs:e.shift=0):zFB P f (.slice (some ⟨b,0,none⟩) l c) (.slice (some ⟨r,0,none⟩) l c):=by
 have:=zFB.sl (P:=P) (o:=0) (len:=l) (cap:=c) h
 rwa [hr,hs] at this
theorem qWZ (hR:Rel P f H w)(h:sG P elem H=some (.val v H')) :
 Post P f H w v H' ((Instr.alloc elem true (.tuple #[])).run P w):=by
 unfold sG at h;split at h
 ·rename_i z hz;obtain⟨hz0,hp⟩:=jN hz;cases h;obtain⟨e,h1,h2,h3,h4,h5,h6⟩:=qHK (P:=P) elem hR (qE.zFR hp);refine⟨_,_,_,?_,h3,h4,qGE h5 h1 h2,h6⟩;simp[Instr.alloc,wU hz0,newVar,newRow]
 ·cases h
theorem q5A {x x':Value}(hR:Rel P f H w)(h:q67 elem x H=some (.val v H'))(hx:zFB P f x x') :
 Post P f H w v H' ((Instr.box elem x').run P w):=by
 unfold q67 at h;split at h
 ·rename_i hn;cases h;obtain⟨e,h1,h2,h3,h4,h5,h6⟩:=qHK (P:=P) elem hR (hx.cells hn);refine⟨_,_,_,?_,h3,h4,qGE h5 h1 h2,h6⟩;simp[Instr.box,newVar,newRow]
 ·cases h
theorem qP3 {α β:Type}(g:α->Sem β)(k:α->β)(w:World):∀ (l:List α),(∀ a∈l,(g a).run P w=.ok (k a) w)->(l.mapM g).run P w=.ok (l.map k) w
 | [],_=>by simp
 | a::l,h=>by
   rw[zRE];simp[h a (by simp),qP3 g k w l (fun b hb=>h b (by simp[hb]))]
theorem qFO {α β:Type}(g:α->Option β):∀ (l:List α) (r:List β),l.mapM g=some r->l.map g=r.map some
 | [],r,h=>by simp at h;simp[h]
 | a::l,r,h=>by
   rw[zRE] at h
   cases hg:g a with
   | none=>simp[hg] at h
   | some b =>
     cases hl:l.mapM g with
     | none=>simp[hg,hl] at h
     | some bs =>
       simp[hg,hl] at h;subst h;simp[hg,qFO g l bs hl]
theorem qU6 {f:Inj}(off:Nat):∀ (l l':List Value) (k:Nat) (a a':Array Value),qE P f l l'->qE P f a.toList a'.toList ->
 qE P f ((l.zipIdx k).foldl (fun cs p=>cs.setIfInBounds (off+p.2) p.1) a).toList ((l'.zipIdx k).foldl (fun cs p=>cs.setIfInBounds (off+p.2) p.1) a').toList
 | [],l',k,a,a',h,ha=>by rw[h.zFF];simpa using ha
 | v::l,l',k,a,a',h,ha=>by
   obtain⟨v',t',rfl,hv,ht⟩:=h.zFD;simp only[zQF,zOR];exact qU6 off l t' (k+1) _ _ ht (by simpa [zPV] using ha.set hv _)
def q9I (P:Program)(f:Inj)(l l':List (Nat×Value)):Prop:=l.map (·.1)=l'.map (·.1)∧qE P f (l.map (·.2)) (l'.map (·.2))
theorem qAA {f:Inj}{place:Nat->Option (Nat×Nat)}:∀ (ps ps':List (Nat×Value)) (c c':Array Value) (r:Array Value),q9I P f ps ps'->qE P f c.toList c'.toList ->
 (∀ p∈ps,zI p.2=true)->Instr.fill place c ps=some r->∃ r',Instr.fill place c' ps'=some r'∧qE P f r.toList r'.toList
 | [],ps',c,c',r,hp,hc,_,h=>by
   have:ps'=[]:=by have:=hp.1;simpa using this
   subst this;simp[Instr.fill] at h ⊢;subst h;exact hc
 | (i,v)::ps,ps',c,c',r,hp,hc,hn,h=>by
   cases ps' with
   | nil=>have:=hp.1;simp at this
   | cons p' ps' =>
     obtain⟨i',v'⟩:=p';obtain⟨h1,h2⟩:=hp;simp only[zNH,zNW] at h1;obtain⟨rfl,h1⟩:=h1;obtain⟨u,t,he,hv,ht⟩:=h2.zFD;simp only[zNH,zNW] at he;obtain⟨rfl,rfl⟩:=he;have hcells:=hv.cells (hn (i,v) (by simp));have hsz:v'.cells.size=v.cells.size:=by have:=hcells.1;simpa using this.symm
     have hcs:c'.size=c.size:=by have:=hc.1;simpa using this.symm
     simp only[Instr.fill] at h ⊢
     cases hpl:place i with
     | none=>rw[hpl] at h;cases h
     | some os =>
       obtain⟨off,size⟩:=os;rw[hpl] at h;simp only[hsz,hcs] at h ⊢;split at h
       ·cases h
       ·rename_i hcond;rw[if_neg hcond];refine qAA ps ps' _ _ r ⟨h1,ht⟩ ?_ (fun p hp=>hn p (by simp[hp])) h;have:=qU6 (P:=P) off v.cells.toList v'.cells.toList 0 c c' hcells hc;rw[<-zPF,<-zPF];simpa using this
theorem qWV {ps ps':List (Nat×Value)}(hR:Rel P f H w)(h:qI1 P t ps=some v)(hp:q9I P f ps ps') :
 Post P f H w v H ((Instr.build t ps'.toArray).run P w):=by
 unfold qI1 at h;split at h
 ·rename_i zero fields hz hu;obtain⟨hz0,hpz⟩:=jN hz;split at h
  ·rename_i places hpl;split at h
   ·rename_i hall;simp only[zM8] at h;obtain⟨cs,hf,rfl⟩:=h;have zKJ:=qFO _ _ _ hpl
    have hrun:=qP3 (P:=P) (fun f:Field=>do pure (f.offset,<-sizeOf f.type)) (fun f:Field=>(f.offset,P.cellsOf f.type)) w fields.toList (fun a ha=>by
     obtain⟨i,hi,hia⟩:=zN3.1 ha;have h1:=congrArg (fun l=>l[i]?) zKJ;simp only[zNC,zM2 hi,zNE,hia] at h1
     cases hs:szT P a.type with
     | none=>rw[hs] at h1;cases hx:places[i]? <;> simp[hx] at h1
     | some n=>simp[zV hs,qBX hs])
    have zI9:places=fields.toList.map (fun f:Field=>(f.offset,P.cellsOf f.type)):=by
     apply zOI;intro i;have h1:=congrArg (fun l=>l[i]?) zKJ;simp only[zNC] at h1 ⊢
     cases hi:fields.toList[i]? with
     | none=>rw[hi] at h1;cases hx:places[i]? with
       | none=>rfl
       | some y=>simp[hx] at h1
     | some x =>
       rw[hi] at h1;simp only[zNE] at h1 ⊢
       cases hs:szT P x.type with
       | none=>rw[hs] at h1;cases hx:places[i]? <;> simp[hx] at h1
       | some n=>rw[hs] at h1;cases hx:places[i]? with
         | none=>simp[hx] at h1
         | some y=>simp[hx] at h1;rw[<-h1,qBX hs]
    obtain⟨r',h1,h2⟩:=qAA ps ps' zero.cells zero.cells cs hp (.zFR hpz) (by simpa using hall) hf;refine .same hR (v':=.agg r') ?_ (.zHB h2);simp only[Instr.build,Sem.run_bind,wU hz0,Result.andThen_ok,run_underlying hu,Array.mapM_eq_mapM_toList,Sem.run_map,hrun];rw[zI9] at h1
    have e1:(fun i:Nat=>(List.map (fun f:Field=>(f.offset,P.cellsOf f.type)) fields.toList).toArray[i]?)=fun x:Nat=>Option.map (fun f:Field=>(f.offset,P.cellsOf f.type)) fields[x]?:=by
     funext i;simp
    rw[e1] at h1;simp[h1]
   ·cases h
  ·cases h
 ·rename_i zero n elem hz hu;obtain⟨hz0,hpz⟩:=jN hz;split at h
  ·rename_i size hs;split at h
   ·rename_i hall;simp only[zM8] at h;obtain⟨cs,hf,rfl⟩:=h;obtain⟨r',h1,h2⟩:=qAA ps ps' zero.cells zero.cells cs hp (.zFR hpz) (by simpa using hall) hf;refine .same hR (v':=.agg r') ?_ (.zHB h2);simp[Instr.build,wU hz0,run_underlying hu,zV hs,h1]
   ·cases h
  ·cases h
 ·cases h
end Go.Idl
namespace Go.Idl
variable {P:Program}
variable {H H':IH}{c cap d h l len most n:Nat}{elem t:TypeId}{f:Inj}{hi hi' lo lo' o:Option Value}{i:Int}{k:IntKind}{v v':Value}{w:World}{z:Array Value}
def u6 (P:Program)(f:Inj):Option Value->Option Value->Prop
 | none,none=>True
 | some v,some v'=>zFB P f v v'
 | _,_=>False
theorem zFB.int {n:Int}(h:zFB P f (.int k n) v'):v'=.int k n:=h.plain rfl
theorem zFB.zHG {b:Bool}(h:zFB P f (.bool b) v'):v'=.bool b:=h.plain rfl
theorem zFB.str {b:ByteArray}(h:zFB P f (.string b) v'):v'=.string b:=h.plain rfl
theorem mU:yF (default:Value)=true:=rfl
theorem nP (h:aF P elem n=some z):zQ z.toList=true:=by
 unfold aF at h;split at h
 ·cases h;rfl
 ·simp only[zM8] at h;obtain⟨zv,hz,rfl⟩:=h;obtain⟨_,hp⟩:=jN hz;rw[xO];intro v hv;simp only[zPP,zNO] at hv;obtain⟨i,_,rfl⟩:=hv;rw[Array.getElem!_eq_getD];unfold Array.getD;split
  ·exact xO.1 hp _ (by simp)
  ·exact mU
theorem nH (h:aF P elem n=some z) :
 (n=0∧z=#[])∨(n≠0∧∃ zv,fD P elem=some zv∧(Array.range n).map (fun i=>zv.cells[i % zv.cells.size]!)=z):=by
 unfold aF at h;split at h
 ·rename_i hn;cases h;exact .inl ⟨hn,rfl⟩
 ·rename_i hn;simp only[zM8] at h;obtain⟨zv,hz,rfl⟩:=h;exact .inr ⟨hn,zv,(jN hz).1,rfl⟩
theorem qC0 {ps ps':List (Nat×Value)}(hR:Rel P f H w)(h:kJ P t len ps H=some (.val v H'))(hp:q9I P f ps ps') :
 Post P f H w v H' ((Instr.buildSlice t len ps'.toArray).run P w):=by
 unfold kJ at h;split at h
 ·rename_i elem hu;split at h
  ·rename_i size hs;split at h
   ·rename_i hc;simp only[zMY,decide_eq_true_eq] at hc;split at h
    ·rename_i z hz;split at h
     ·rename_i cells hf;cases h;obtain⟨r',h1,h2⟩:=qAA ps ps' z z cells hp (.zFR (nP hz)) (by simpa using hc.2) hf;obtain⟨e,e1,e2,e3,e4,e5,e6⟩:=qHK (P:=P) elem hR h2;refine⟨_,_,_,?_,e3,e4,q3V len len e5 e1 e2,e6⟩;simp only[Instr.buildSlice,Sem.run_bind,run_underlying hu,Result.andThen_ok,zV hs];rw[if_neg (by omega)]
      rcases nH hz with ⟨hn,rfl⟩ | ⟨hn,zv,hzv,rfl⟩
      ·simp[hn,show Array.range 0=#[] from rfl,h1,newRow]
      ·simp only[hn,if_false,Sem.run_bind,wU hzv,Result.andThen_ok,Sem.run_pure,h1];simp[newRow]
     ·cases h
    ·cases h
   ·cases h
  ·cases h
 ·cases h
theorem wrap_i64 {n:Int}(h0:0<=n)(h1:n<=2 ^ 62):IntKind.i64.wrap n=n:=by
 have e:n % (18446744073709551616:Int)=n:=Int.emod_eq_of_lt h0 (by omega);have hw:IntKind.i64.wrap n=if (true&&decide (n % (18446744073709551616:Int) ≥ 9223372036854775808))=true then n % (18446744073709551616:Int) - 18446744073709551616 else n % (18446744073709551616:Int):=rfl;rw[hw];simp only[e];rw[if_neg];simp;omega
theorem qG4 {l l' c c':Value}(hR:Rel P f H w)(h:jG P t l c H=some (.val v H'))(hl:zFB P f l l')(hc:zFB P f c c') :
 Post P f H w v H' ((Instr.makeSlice t l' c').run P w):=by
 unfold jG at h;split at h
 ·rename_i elem k1 l k2 c hu;rw[hl.int,hc.int];split at h
  ·rename_i i hi;split at h
   ·rename_i hb;simp only[zMY,decide_eq_true_eq] at hb;obtain⟨⟨⟨b1,b2⟩,b3⟩,b4⟩:=hb;split at h
    ·rename_i z hz;cases h;have hsz:szT P elem=some i.size:=by simp[szT,hi]
     have w1:IntKind.i64.wrap l=l:=wrap_i64 b1 (by omega);have w2:IntKind.i64.wrap c=c:=wrap_i64 (by omega) (by omega);obtain⟨e,e1,e2,e3,e4,e5,e6⟩:=qHK (P:=P) elem hR (.zFR (nP hz):qE P f z.toList z.toList);refine⟨_,_,_,?_,e3,e4,q3V l.toNat c.toNat e5 e1 e2,e6⟩;have hbc:¬ ((i.bytes:Int)*c > 2 ^ 48):=by omega
     simp only[Instr.makeSlice,Sem.run_bind,run_underlying hu,Result.andThen_ok,asInt,asIntOf,Sem.run_pure,typeInfo,run_program,hi,w1,w2];rw[if_neg (by simp;omega)];simp only[Sem.run_bind,run_askRoom,Result.andThen_ok,zV hsz]
     rcases nH hz with ⟨hn,rfl⟩ | ⟨hn,zv,hzv,rfl⟩
     ·simp[hn,show Array.range 0=#[] from rfl,newRow]
     ·simp only[hn,if_false,Sem.run_bind,wU hzv,Result.andThen_ok,Sem.run_pure];simp[newRow]
    ·cases h
   ·cases h
  ·cases h
 ·cases h
theorem run_sliceBound {y:Nat}{code:BoundsCode}(h0:0<=i)(h1:i<=y)(w:World):(Instr.sliceBound (.int k i) y code).run P w=.ok i.toNat w:=by
 simp[Instr.sliceBound,asIntOf,h0,h1]
theorem bQ (h:gF d most o=some n):(o=none∧n=d)∨∃ k i,o=some (.int k i)∧0<=i∧i<=(most:Int)∧n=i.toNat:=by
 unfold gF at h;split at h
 ·cases h;exact .inl ⟨rfl,rfl⟩
 ·rename_i k i;split at h
  ·rename_i hc;simp only[zMY,decide_eq_true_eq] at hc;cases h;exact .inr ⟨k,i,rfl,hc.1,hc.2,rfl⟩
  ·cases h
 ·cases h
theorem qWC (h:u6 P f (some (.int k i)) o):o=some (.int k i):=by
 cases o with
 | none=>simp[u6] at h
 | some v=>rw[zFB.int h]
theorem qNW (h:u6 P f none o):o=none:=by
 cases o with
 | none=>rfl
 | some v=>simp[u6] at h
theorem wI {isS:Bool}{cap':Nat}(hlo:u6 P f lo lo')(hhi:u6 P f hi hi')
 (h1:gF len cap hi=some h) (h2:gF 0 h lo=some l) (hcap:cap<=cap') (w:World):(Instr.sliceBounds isS len cap' lo' hi' none).run P w=.ok (l,h,cap') w:=by
 rcases bQ h1 with ⟨rfl,rfl⟩ | ⟨k,i,rfl,b0,b1,rfl⟩
 ·rw[qNW hhi]
  rcases bQ h2 with ⟨rfl,rfl⟩ | ⟨k2,i2,rfl,c0,c1,rfl⟩
  ·rw[qNW hlo];simp[Instr.sliceBounds]
  ·rw[qWC hlo];have:=run_sliceBound (P:=P) (k:=k2) (code:=.sliceB) c0 c1 w;simp[Instr.sliceBounds,this]
 ·rw[qWC hhi];have r1:=fun code=>run_sliceBound (P:=P) (k:=k) (code:=code) b0 (show i<=(cap':Int) by omega) w
  rcases bQ h2 with ⟨rfl,rfl⟩ | ⟨k2,i2,rfl,c0,c1,rfl⟩
  ·rw[qNW hlo];simp[Instr.sliceBounds,r1]
  ·rw[qWC hlo];have:=run_sliceBound (P:=P) (k:=k2) (code:=.sliceB) c0 c1 w;simp[Instr.sliceBounds,r1,this]
theorem qAJ (h:gF d most o=some n)(hd:d<=most):n<=most:=by
 rcases bQ h with ⟨_,rfl⟩ | ⟨k,i,_,b0,b1,rfl⟩ <;> omega
theorem zFB.zGL (h:zFB P f (.slice none l c) v'):v'=.slice none l c:=by
 cases h;rfl
theorem qDO {o s N:Nat}(h:o+c*s<=N)(hl:l<=c):o+l*s+(c - l)*s<=N:=by
 have:l*s+(c - l)*s=c*s:=by rw[<-zPK];congr 1;omega
 omega
theorem rV (hu:P.underlying t=some (.slice elem)){a:Option Addr}{size:Nat}(hb:(Instr.sliceBounds true len cap lo hi none).run P w=.ok (l,h,cap) w)
 (hs:(sizeOf elem).run P w=.ok size w) :
 (Instr.sliceAt t (.slice a len cap) lo hi none).run P w=.ok (.slice (if cap=l then a else a.map (·.add (l*size))) (h - l) (cap - l)) w:=by
 simp[Instr.sliceAt,Instr.slice,run_underlying hu,hb,hs]
theorem qV3 {x x':Value}{mx mx':Option Value}(h:wL P t x lo hi mx=some v)(hx:zFB P f x x')
 (hlo:u6 P f lo lo') (hhi:u6 P f hi hi') (hmx:u6 P f mx mx'):∃ v',(Instr.sliceAt t x' lo' hi' mx').run P w=.ok v' w∧zFB P f v v':=by
 unfold wL at h;split at h
 ·-- the nil slice
  rename_i elem hu
  have:mx'=none:=by cases mx' with
   | none=>rfl
   | some v=>simp[u6] at hmx
  subst this;rw[hx.zGL];split at h
  ·rename_i size hh hs h1;split at h
   ·rename_i l h2;cases h;have hb:=wI (P:=P) (isS:=true) hlo hhi h1 h2 (zM0 0) w;have h3:hh=0:=by have:=qAJ h1 (zM0 0);omega
    have h4:l=0:=by have:=qAJ h2 (zO1 _);omega
    subst h3 h4;exact⟨_,rV hu hb (zV hs w),.base _ rfl⟩
   ·cases h
  ·cases h
 ·rename_i elem b o sp len cap hu
  have:mx'=none:=by cases mx' with
   | none=>rfl
   | some v=>simp[u6] at hmx
  subst this;split at h
  ·rename_i size hh hs h1;split at h
   ·rename_i l h2;split at h
    ·rename_i hsp;cases h;simp only[zMY,Nat.ble_eq] at hsp;obtain⟨hsp,hhc⟩:=hsp;have hlh:l<=hh:=qAJ h2 (zO1 _)
     have key:∀ (cap':Nat),cap<=cap'->∀ a:Option Addr,(Instr.sliceAt t (.slice a len cap') lo' hi' none).run P w=.ok (.slice (if cap'=l then a else a.map (·.add (l*size))) (hh - l) (cap' - l)) w :=
      fun cap' hc a=>rV hu (wI (P:=P) (isS:=true) hlo hhi h1 h2 hc w) (zV hs w)
     cases hx with
     | base _ hp=>have hp':false=true:=hp;cases hp'
     | @sl _ _ _ _ e hb =>
       refine⟨_,key cap (zM0 _) _,?_⟩;by_cases hc:cap=l
       ·simp only[hc,if_true];exact .sl hb
       ·simp only[hc,if_false,zNE,yX];have:=zFB.sl (P:=P) (o:=o+l*size) (len:=hh - l) (cap:=cap - l) hb
        rwa [show o+l*size+e.shift=o+e.shift+l*size by omega] at this
     | @room _ _ el _ _ cap' e hb hcc hn =>
       have hel:el=elem:=by simpa using hsp
       subst hel;have hsz:=qBX hs;refine⟨_,key cap' hcc _,?_⟩;by_cases hc:cap=l
       ·-- nothing is left of it
        have e1:hh - l=0:=by omega
        have e2:cap - l=0:=by omega
        rw[e1,e2];by_cases hc':cap'=l
        ·simp only[hc',if_true];refine .zF3 hb (by omega) ?_;have:=zNP (Nat.le_add_right (o+e.shift) _) hn;simpa using this
        ·simp only[hc',if_false,zNE,yX];refine .zF3 hb (by omega) ?_;have:=qDO hn (show l<=cap' by omega);rw[hsz] at this ⊢;omega
       ·have hne:¬ cap'=l:=by omega
        simp only[hc,hne,if_false,zNE,yX]
        have:=zFB.room (P:=P) (o:=o+l*size) (len:=hh - l) (cap:=cap - l) (cap':=cap' - l) (el:=el) hb (by omega) (by
         have:=qDO hn (show l<=cap' by omega);rw[hsz] at this ⊢
         omega)
        rwa [show o+l*size+e.shift=o+e.shift+l*size by omega] at this
     | @zF3 _ _ o' el cap' e hb hsh hn =>
       have hz:hh=0:=by omega
       have hl0:l=0:=by omega
       subst hz hl0;refine⟨_,key cap' (zO1 _) _,?_⟩;have e1:(⟨e.r,o',none⟩:Addr).add (0*size)=⟨e.r,o',none⟩:=by simp[Addr.add]
       simp only[zNE,e1];have e2:(if cap'=0 then some (⟨e.r,o',none⟩:Addr) else some ⟨e.r,o',none⟩)=some ⟨e.r,o',none⟩:=by split <;> rfl
       rw[e2];exact .zF3 hb hsh hn
     | @gh _ a' e hb hg =>
       have hz:hh=0:=by omega
       have hl0:l=0:=by omega
       subst hz hl0;refine⟨_,key 0 (zM0 _) _,?_⟩;simp only[if_true];exact .gh hb hg
    ·cases h
   ·cases h
  ·cases h
 ·rename_i n elem b o hu
  have:mx'=none:=by cases mx' with
   | none=>rfl
   | some v=>simp[u6] at hmx
  subst this;obtain⟨e,hb,rfl⟩:=hx.zFX;split at h
  ·rename_i size hh hs h1;split at h
   ·rename_i l h2;cases h;have hbd:=wI (P:=P) (isS:=false) hlo hhi h1 h2 (zM0 n) w;refine⟨.slice (some (if n=l then ⟨e.r,o+e.shift,none⟩ else (⟨e.r,o+e.shift,none⟩:Addr).add (l*size))) (hh - l) (n - l),?_,?_⟩
    ·simp[Instr.sliceAt,Instr.sureAddr,run_underlying hu,hbd,zV hs]
    ·by_cases hc:n=l
     ·simp only[hc,if_true];exact .sl hb
     ·simp only[hc,if_false,yX];have:=zFB.sl (P:=P) (o:=o+l*size) (len:=hh - l) (cap:=n - l) hb
      rwa [show o+l*size+e.shift=o+e.shift+l*size by omega] at this
   ·cases h
  ·cases h
 ·cases h
end Go.Idl
namespace Go.Idl
variable {P:Program}
variable {H H':IH}{a a' c c':Array Value}{f:Inj}{ix ix' v v' x x':Value}{t:TypeId}{w:World}
theorem qL3 {s:TypeId}{fd:Nat}(h:dJ P s x fd=some v)(hx:zFB P f x x') :
 ∃ v',(Instr.fieldAt s x' fd).run P w=.ok v' w∧zFB P f v v':=by
 unfold dJ at h;split at h
 ·rename_i fields b o hu;obtain⟨e,hb,rfl⟩:=hx.zFX;split at h
  ·rename_i fl hf;split at h
   ·rename_i sz hs;split at h
    ·cases h
    ·rename_i hne;cases h;refine⟨.pointer (some ⟨e.r,o+fl.offset+e.shift,none⟩),?_,.ptr hb⟩;simp[Instr.fieldAt,run_underlying hu,hf,Instr.sureAddr,fieldPlace,zV hs,hne,yX];omega
   ·cases h
  ·cases h
 ·cases h
theorem qE.extract {f:Inj}{c c':Array Value}(h:qE P f c.toList c'.toList)(a b:Nat):qE P f (c.extract a b).toList (c'.extract a b).toList:=by
 simp only[Array.toList_extract];unfold List.extract;exact (h.drop a).take _
theorem q2U {off:Nat}(h:qQ2 P t c off=some v)(hc:qE P f c.toList c'.toList) :
 ∃ v',(part t c' off).run P w=.ok v' w∧zFB P f v v':=by
 unfold qQ2 at h;split at h
 ·rename_i hag;split at h
  ·rename_i n hn;split at h
   ·cases h;refine⟨.agg (c'.extract off (off+n)),?_,.zHB (hc.extract _ _)⟩;simp[part,qG5 hag,zV hn]
   ·cases h
  ·cases h
 ·rename_i hag;obtain⟨v',h1,h2⟩:=hc.get (i:=off) (v:=v) (by simpa using h);refine⟨v',?_,h2⟩;have h1':c'[off]?=some v':=by simpa using h1
  simp[part,qG5 hag,h1']
 ·cases h
theorem qTH (h:sH P t x ix=some v)(hx:zFB P f x x')(hi:zFB P f ix ix') :
 ∃ v',(Instr.index t x' ix').run P w=.ok v' w∧zFB P f v v':=by
 unfold sH at h;split at h
 ·rename_i n elem cs k i hu;obtain⟨cs',rfl,hc⟩:=hx.zI8;rw[hi.int];split at h
  ·rename_i size hs;split at h
   ·rename_i hb;simp only[zMY,decide_eq_true_eq] at hb;obtain⟨v',h1,h2⟩:=q2U (w:=w) h hc;refine⟨v',?_,h2⟩;simp[Instr.index,asIntOf,run_underlying hu,hb.1,hb.2,zV hs,h1]
   ·cases h
  ·cases h
 ·cases h
theorem qL7 (h:wW P t x ix=some v)(hx:zFB P f x x')(hi:zFB P f ix ix') :
 ∃ v',(Instr.indexAt t x' ix').run P w=.ok v' w∧zFB P f v v':=by
 unfold wW at h;split at h
 ·rename_i n elem b o k i hu;obtain⟨e,hb,rfl⟩:=hx.zFX;rw[hi.int];split at h
  ·rename_i size hs;split at h
   ·rename_i hbd;simp only[zMY,decide_eq_true_eq] at hbd;cases h;refine⟨.pointer (some ⟨e.r,o+i.toNat*size+e.shift,none⟩),?_,.ptr hb⟩;simp[Instr.indexAt,asIntOf,run_underlying hu,Instr.sureAddr,hbd.1,hbd.2,zV hs,yX];omega
   ·cases h
  ·cases h
 ·rename_i elem b o sp len cap k i hu;rw[hi.int];split at h
  ·rename_i size hs;split at h
   ·rename_i hbd;simp only[zMY,decide_eq_true_eq] at hbd;cases h
    have fin:∀ (r off cap':Nat),(Instr.indexAt t (.slice (some ⟨r,off,none⟩) len cap') (.int k i)).run P w=.ok (.pointer (some ⟨r,off+i.toNat*size,none⟩)) w:=by
     intro r off cap';simp[Instr.indexAt,asIntOf,run_underlying hu,hbd.1,hbd.2,zV hs,yX]
    cases hx with
    | base _ hp=>have hp':false=true:=hp;cases hp'
    | @sl _ _ _ _ e hb =>
      refine⟨_,fin _ _ _,?_⟩;have:=zFB.ptr (P:=P) (o:=o+i.toNat*size) hb
      rwa [show o+i.toNat*size+e.shift=o+e.shift+i.toNat*size by omega] at this
    | @room _ _ el _ _ cap' e hb hcc hn =>
      refine⟨_,fin _ _ _,?_⟩;have:=zFB.ptr (P:=P) (o:=o+i.toNat*size) hb
      rwa [show o+i.toNat*size+e.shift=o+e.shift+i.toNat*size by omega] at this
    | zF3 hb hsh hn=>omega
    | gh hb hg=>omega
   ·cases h
  ·cases h
 ·cases h
theorem val_inj (h:some (zFH.val v H)=some (.val v' H')):v=v'∧H=H':=by cases h;exact⟨rfl,rfl⟩
theorem q0T {c a b c' a' b':Value}(hR:Rel P f H w)(h:qMI c a b H=some (.val v H'))(hc:zFB P f c c')(ha:zFB P f a a')(hb:zFB P f b b') :
 Post P f H w v H' ((do pure (if <- asBool c' then a' else b'):Sem Value).run P w):=by
 unfold qMI at h;split at h
 ·rename_i t;rw[hc.zHG];obtain⟨rfl,rfl⟩:=val_inj h;cases t
  ·exact .same hR (v':=b') (by simp[asBool]) hb
  ·exact .same hR (v':=a') (by simp[asBool]) ha
 ·cases h
theorem zFB.zH3 {vs:Array Value}(h:zFB P f (.tuple vs) v'):(vs=#[]∨vs=#[.tuple #[]]∨∃ vs',v'=.tuple vs'∧qE P f vs.toList vs'.toList):=by
 cases h with
 | any v=>exact .inr (.inl rfl)
 | undef=>exact .inl rfl
 | base _ hp=>have hp':false=true:=hp;cases hp'
 | tuple ha hav=>exact .inr (.inr ⟨_,rfl,by simpa using ha,fun i v v' h1 h2=>hav i v v' (by simpa using h1) (by simpa using h2)⟩)
theorem qMR {ix:Nat}(hR:Rel P f H w)(h:fE x ix H=some (.val v H'))(hx:zFB P f x x') :
 Post P f H w v H' ((Instr.extract x' ix).run P w):=by
 unfold fE at h;split at h
 ·rename_i vs
  have h1:zJ vs.toList ix=some v∧zI v=true∧H'=H:=by
   unfold wH at h;split at h
   ·rename_i u hu
    cases hn:zI u with
    | false=>rw[hn] at h;cases h
    | true=>rw[hn] at h;cases h;exact⟨hu,hn,rfl⟩
   ·cases h
  obtain⟨h1,hnt,rfl⟩:=h1;rw[qG] at h1
  rcases hx.zH3 with rfl | rfl | ⟨vs',rfl,hv⟩
  ·simp at h1
  ·cases ix <;> simp at h1;subst h1;simp[zI] at hnt
  ·obtain⟨v',h2,h3⟩:=hv.get h1;have h2':vs'[ix]?=some v':=by simpa using h2
   exact .same hR (v':=v') (by simp[Instr.extract,h2']) h3
 ·cases h
theorem qJU {fn:Fn}(hR:Rel P f H w)(h:wN fn a c H=some (.val v H'))(ha:qE P f a.toList a'.toList)(hc:qE P f c.toList c'.toList) :
 Post P f H w v H' ((Instr.makeFunc fn a' c').run P w):=by
 unfold wN at h;split at h
 ·obtain⟨rfl,rfl⟩:=val_inj h;exact .same hR rfl (.func (by simpa using ha.1) (by simpa using hc.1) (fun i v v' h1 h2=>ha.2 i v v' (by simpa using h1) (by simpa using h2)) (fun i v v' h1 h2=>hc.2 i v v' (by simpa using h1) (by simpa using h2)))
 ·cases h
theorem zFB.zGH {f:Inj}{fn:Fn}{a c:Array Value}{v':Value}(h:zFB P f (.func fn a c) v') :
 (∃ g a' c',fn=.func g∧v'=.func (.func g) a' c'∧qE P f a.toList a'.toList∧qE P f c.toList c'.toList)∨(∃ l e,fn=.yield l∧a=#[]∧c=#[]∧f l=some e∧v'=.func (.yield e.r) #[] #[]):=by
 cases h with
 | base _ hp =>
   cases fn with
   | func g =>
     have hp':(true&&(jZ (kC 2) a.toList&&jZ (kC 2) c.toList))=true:=hp;simp only[zMY,xN] at hp';have pl:∀ l:List Value,(∀ x∈l,kC 2 x=true)->zQ l=true:=fun l hl=>xO.2 fun x hx=>qBB 2 x (hl x hx)
     exact .inl ⟨g,a,c,rfl,rfl,.zFR (pl _ hp'.2.1),.zFR (pl _ hp'.2.2)⟩
   | _=>have hp':false=true:=hp;cases hp'
 | func ha hc hav hcv =>
   exact .inl ⟨_,_,_,rfl,rfl,⟨by simpa using ha,fun i v v' h1 h2=>hav i v v' (by simpa using h1) (by simpa using h2)⟩,⟨by simpa using hc,fun i v v' h1 h2=>hcv i v v' (by simpa using h1) (by simpa using h2)⟩⟩
 | yield h=>exact .inr ⟨_,_,rfl,rfl,rfl,h,rfl⟩
theorem q7Z {g:FuncId}(ha:qE P f a.toList a'.toList)(hc:qE P f c.toList c'.toList):zFB P f (.func (.func g) a c) (.func (.func g) a' c') :=
 .func (by simpa using ha.1) (by simpa using hc.1) (fun i v v' h1 h2=>ha.2 i v v' (by simpa using h1) (by simpa using h2)) (fun i v v' h1 h2=>hc.2 i v v' (by simpa using h1) (by simpa using h2))
theorem zFB.zIE {a:Addr}(h:zFB P f (.pointer (some a)) v'):∃ a',v'=.pointer (some a'):=by
 cases h with
 | base _ hp=>have hp':false=true:=hp;cases hp'
 | ptr h=>exact⟨_,rfl⟩
theorem qJZ (hR:Rel P f H w)(h:wJ x H=some (.val v H'))(hx:zFB P f x x'){o:Oper}{ρ:Operand->Value}{xo:Operand}(ho:o.op=.nilCheck xo)(hρ:ρ xo=x') :
 ∃ v',(execOp ρ o).run P w=.ok (.value v') w∧H'=H∧zFB P f v v':=by
 unfold wJ at h;split at h
 ·obtain⟨rfl,rfl⟩:=val_inj h;obtain⟨a',rfl⟩:=hx.zIE;exact⟨_,by simp[execOp,ho,hρ],rfl,hx⟩
 ·obtain⟨rfl,rfl⟩:=val_inj h
  rcases hx.zGH with ⟨g,a',c',hg,rfl,h1,h2⟩ | ⟨l,e,hg,_⟩
  ·cases hg;exact⟨_,by simp[execOp,ho,hρ],rfl,q7Z h1 h2⟩
  ·cases hg
 ·obtain⟨rfl,rfl⟩:=val_inj h
  rcases hx.zGH with ⟨g,a',c',hg,_⟩ | ⟨l,e,hg,rfl,rfl,h1,rfl⟩
  ·cases hg
  ·cases hg;exact⟨_,by simp[execOp,ho,hρ],rfl,.yield h1⟩
 ·cases h
theorem qL8 {r:Option Operand}(hR:Rel P f H w)(h:bM r H=some (.val v H'))(t:TypeId)(ρ:Operand->Value) :
 Post P f H w v H' ((Instr.makeMap t (r.map ρ)).run P w):=by
 unfold bM at h;split at h
 ·obtain⟨rfl,rfl⟩:=val_inj h
  have hO:tX P (f.add H.size ⟨w.heap.size,0,0,false⟩) ⟨w.heap.size,0,0,false⟩ (.map #[] 0) (some (.map #[] 0)) :=
   ⟨rfl,#[],rfl,rfl,fun i x hx=>by simp at hx⟩
  obtain⟨h1,h2⟩:=Rel.push hR rfl hO;refine⟨.map (some w.heap.size),_,_,?_,h1,h2,?_,.push⟩
  ·simp[Instr.makeMap]
  ·have:=zFB.map (P:=P) (f:=f.add H.size ⟨w.heap.size,0,0,false⟩) (b:=H.size) Inj.add_same;exact this
 ·cases h
end Go.Idl
namespace Go.Idl
variable {P:Program}
variable {H:IH}{f:Inj}{l:List Value}{m n size:Nat}{w:World}{x x':Value}
theorem qNR (l:List UInt8):zQ (l.map fun b=>Value.int .u8 b.toNat)=true:=by
 rw[xO];intro v hv;obtain⟨b,_,rfl⟩:=zNO.1 hv;rfl
theorem qPO {b i:Nat}{e:Emb}(hR:Rel P f H w)(hb:f b=some e)(hg:e.N < e.shift)(h:H.loads b i n=some l):False:=by
 obtain⟨c,el,fz,hc,_,_⟩:=nV h;obtain⟨c',el',fz',_,h2,h3,_⟩:=hR.obj b e _ hb hc;omega
theorem qJA (hR:Rel P f H w)(h:wK size n H x=some l)(hx:zFB P f x x')(hm:xZ x=some m)(hn:n<=m) :
 ∃ l',(∀ w':World,w'.heap=w.heap->(Builtin.firstCells size n x').run P w'=.ok l'.toArray w')∧qE P f l l'∧((∃ a b c,x=.slice a b c)->l.length=n*size):=by
 unfold wK at h;split at h
 ·rename_i b o sp len cap
  have hlen:l.length=n*size:=by
   obtain⟨c,el,fz,_,hle,rfl⟩:=nV h;simp;omega
  cases hx with
  | base _ hp=>have hp':false=true:=hp;cases hp'
  | @sl _ _ _ _ e hb =>
    obtain⟨l',h1,h2,h3⟩:=aX hR hb h;refine⟨l',fun w' hw'=>?_,h1,fun _=>hlen⟩;have:=run_loadCells_list (P:=P) w' ⟨e.r,o+e.shift,none⟩ l' (fun j v hj=>by have:=h3 j v hj;simpa only[World.cell?,hw'] using this);rw[h2] at this;simpa [Builtin.firstCells] using this
  | @room _ _ el _ _ cap' e hb hcc hn' =>
    obtain⟨l',h1,h2,h3⟩:=aX hR hb h;refine⟨l',fun w' hw'=>?_,h1,fun _=>hlen⟩;have:=run_loadCells_list (P:=P) w' ⟨e.r,o+e.shift,none⟩ l' (fun j v hj=>by have:=h3 j v hj;simpa only[World.cell?,hw'] using this);rw[h2] at this;simpa [Builtin.firstCells] using this
  | @zF3 _ _ o' el cap' e hb hsh hn' =>
    simp[xZ] at hm;have hn0:n=0:=by omega
    subst hn0;have:l=[]:=by simpa using hlen
    subst this;exact⟨[],fun w' _=>by simp[Builtin.firstCells,loadCells,loadCellsFrom],.nil,fun _=>hlen⟩
  | gh hb hg=>exact (qPO hR hb hg h).elim
 ·rename_i len cap;split at h
  ·rename_i hn0;cases h;rw[hx.zGL];exact⟨[],fun w' _=>by simp[Builtin.firstCells],.nil,fun _=>by simp[hn0]⟩
  ·cases h
 ·rename_i s;cases h;rw[hx.str];exact⟨_,fun w' _=>by simp only[Builtin.firstCells,Sem.run_pure];congr 1;apply zOJ;simp,.zFR (qNR _),fun ⟨a,b,c,hc⟩=>by cases hc⟩
 ·cases h
theorem qDT (hR:Rel P f H w)(h:kX size n H x=some l)(hx:zFB P f x x')(hm:xZ x=some m)(hn:n<=m) :
 ∃ l',(∀ w':World,w'.heap=w.heap->(Builtin.firstCells size n x').run P w'=.ok l'.toArray w')∧qE P f l l'∧((∃ a b c,x=.slice a b c)->l.length=n*size):=by
 unfold kX at h;by_cases h0:n=0
 ·subst h0;rw[if_pos rfl,hm] at h;simp only[zQP,if_true,zM7] at h;subst h;refine⟨[],fun w' _=>?_,.nil,fun _=>by simp⟩;unfold xZ at hm;split at hm
  ·have key:∃ a b c,x'=.slice a b c:=by
    cases hx <;> exact⟨_,_,_,rfl⟩
   obtain⟨a,b,c,rfl⟩:=key;cases a <;> simp[Builtin.firstCells,loadCells,loadCellsFrom]
  ·rename_i s;have:x'=.string s:=hx.plain rfl;subst this;simp[Builtin.firstCells]
  ·cases hm
 ·rw[if_neg h0] at h;exact qJA hR h hx hm hn
theorem fJ (h:kX size 0 H x=some l):l=[]:=by
 unfold kX at h;rw[if_pos rfl] at h;split at h
 ·cases h;rfl
 ·cases h
theorem zFB.zGI {a:Option Addr}{l c:Nat}(h:zFB P f (.slice a l c) x'):∃ a' c',x'=.slice a' l c':=by
 cases h with
 | base _ _=>exact⟨_,_,rfl⟩
 | sl _=>exact⟨_,_,rfl⟩
 | room _ _ _=>exact⟨_,_,rfl⟩
 | zF3 _ _ _=>exact⟨_,_,rfl⟩
 | gh _ _=>exact⟨_,_,rfl⟩
theorem qJW (hx:zFB P f x x')(h:xZ x=some m)(w:World):(Builtin.lenOf x').run P w=.ok m w:=by
 unfold xZ at h;split at h
 ·cases h;obtain⟨a',c',rfl⟩:=hx.zGI;simp[Builtin.lenOf]
 ·cases h;rw[hx.str];simp[Builtin.lenOf]
 ·cases h
theorem qE.zHH {l l':List Value}(h:qE P f l l')(h1:∀ v∈l,oneCell v=true):∀ v∈l',oneCell v=true:=by
 intro v hv;obtain⟨j,hj,rfl⟩:=zN3.1 hv;have hj2:j < l.length:=by rw[h.1];exact hj
 exact (h.2 j l[j] l'[j] (zM2 hj2) (zM2 hj)).oneCell (h1 _ (zOG hj2))
theorem q1V {H':IH}{at_:Array TypeId}{as as':List Value}{t:TypeId}{v:Value}(hR:Rel P f H w)(h:qDG P at_ as H=some (.val v H'))(ha:qE P f as as') :
 Post P f H w v H' ((Builtin.copy_ at_ t as'.toArray).run P w):=by
 unfold qDG at h;split at h
 ·rename_i st xt base qQG dcap x hat;obtain⟨s',r1,rfl,hs,hr1⟩:=ha.zFD;obtain⟨x',r2,rfl,hx,hr2⟩:=hr1.zFD;have:=hr2.zFF;subst this;obtain⟨a',c',rfl⟩:=hs.zGI;have zJ0:at_=#[st,xt]:=by apply zOJ;simpa using hat
  subst zJ0;split at h
  ·rename_i elem hu;split at h
   ·rename_i size m hsz hm;split at h
    ·rename_i l hl;have hnm:Nat.min m qQG<=m:=Nat.min_le_left _ _;obtain⟨l',h1',h2,_⟩:=qDT hR hl hx hm hnm;have h1:=h1' w rfl;have hlen:=qJW (P:=P) hx hm w
     have hrun:∀ w',(match a' with
      | some a=>storeCells a l'
      | none=>pure ()).run P w=.ok () w'->(Builtin.copy_ #[st,xt] t #[.slice a' qQG c',x']).run P w=.ok (goInt (Nat.min m qQG)) w':=by
      intro w' hw'
      cases a' with
      | none =>
        simp only[Sem.run_pure,Result.ok.injEq,true_and] at hw';subst hw';simp[Builtin.copy_,run_underlying hu,hlen,zV hsz,h1]
      | some a =>
        simp only at hw';simp[Builtin.copy_,run_underlying hu,hlen,zV hsz,h1,hw']
     have nothing:l=[]->l'=[]:=fun e=>by subst e;exact h2.zFF
     have zIF:l=[]->Post P f H w (goInt (Nat.min m qQG)) H ((Builtin.copy_ #[st,xt] t #[.slice a' qQG c',x']).run P w):=by
      intro e;refine .same hR (v':=goInt (Nat.min m qQG)) (hrun w ?_) (.base _ rfl);rw[nothing e];cases a' <;> simp[storeCells]
     unfold wZ at h;split at h
     ·rename_i a;split at h
      ·rename_i hemp;obtain⟨rfl,rfl⟩:=val_inj h;exact zIF (by simpa using hemp)
      ·rename_i hne;split at h
       ·rename_i H2 hst;obtain⟨rfl,rfl⟩:=val_inj h
        have fin:∀ (e:Emb),f a.block=some e->a'=some ⟨e.r,a.off+e.shift,none⟩->Post P f H w (goInt (Nat.min m qQG)) H2 ((Builtin.copy_ #[st,xt] t #[.slice a' qQG c',x']).run P w):=by
         intro e hb ha';obtain⟨w',e1,e2,e3,e4⟩:=pY hR hb hst h2;exact⟨_,w',f,hrun w' (by rw[ha'];exact e1),e2,e3,.base _ rfl,e4⟩
        cases hs with
        | base _ hp=>have hp':false=true:=hp;cases hp'
        | sl hb=>exact fin _ hb rfl
        | room hb _ _=>exact fin _ hb rfl
        | gh hb _ =>
          exfalso;apply hne;have:Nat.min m 0=0:=zQ7 m;rw[this] at hl;rw[fJ hl];rfl
        | zF3 hb _ _ =>
          exfalso;apply hne;have:Nat.min m 0=0:=zQ7 m;rw[this] at hl;rw[fJ hl];rfl
       ·cases h
     ·obtain⟨rfl,rfl⟩:=val_inj h;have:a'=none:=by cases hs;rfl
      subst this;exact .same hR (v':=goInt (Nat.min m qQG)) (hrun w (by simp)) (.base _ rfl)
    ·cases h
   ·cases h
  ·cases h
 ·cases h
end Go.Idl
namespace Go.Idl
variable {P:Program}
theorem qJX (newLen:Nat):∀ (n c b:Nat),c<=b->newLen+(newLen+768) / 4<=b->Builtin.growBy newLen n c<=b
 | 0,c,b,hc,_=>hc
 | n+1,c,b,hc,hb=>by
   unfold Builtin.growBy;split
   ·exact hc
   ·exact qJX newLen n _ b (by omega) hb
theorem q4T {newLen oldCap:Nat}(h:oldCap < newLen):Builtin.nextslicecap newLen oldCap<=2*newLen:=by
 unfold Builtin.nextslicecap;split
 ·omega
 ·split
  ·omega
  ·exact qJX newLen 4 oldCap _ (by omega) (by omega)
theorem qVM {f:Inj}{H:IH}{w:World}{b a0:Nat}{e:Emb}{c:Array Value}{elem:TypeId}{fz:Nat×Nat}{old old' new new':List Value}
 (hR:Rel P f H w) (hb:f b=some e) (hg:H.get b=some (.cells c elem fz)) (hfree:aZ fz=true)
 (ho:qE P f old old') (hn:qE P f new new') (hfit:a0+old.length+new.length<=e.N) (h1:∀ v∈new,oneCell v=true)
 (hold:∀ (j:Nat) v,old'[j]?=some v->w.cell? ⟨e.r,a0+j,none⟩=some v) :
 ∃ w' f',(storeCells ⟨e.r,a0+old.length,none⟩ new').run P w=.ok () w'∧Rel P f' ((H.put b xB).push (.cells (old++new).toArray elem zN)) w'∧Grow f H w f' ((H.put b xB).push (.cells (old++new).toArray elem zN)) w' ∧
  f' H.size=some ⟨e.r,a0,e.N,false⟩∧Keep f H ((H.put b xB).push (.cells (old++new).toArray elem zN)):=by
 obtain⟨c',el',fz',hr,hN,hsz,hcv,hfr,hex⟩:=hR.obj b e _ hb hg;obtain⟨hro,hel,hnf⟩:=hfr hfree;subst hel;have hlt:e.r < w.heap.size:=hR.bound b e hb;have hbs:b < H.size:=hR.dom b e hb;have hlo:old'.length=old.length:=ho.1.symm;have hln:new'.length=new.length:=hn.1.symm;have hrun:=uM (P:=P) e.r (a0+old.length) el' fz' new' 0 c' w hr hnf (by omega) (hn.zHH h1);simp only[zPL] at hrun
 have hnone:f H.size=none:=by
  cases hx:f H.size with
  | none=>rfl
  | some y=>have:=hR.dom _ _ hx;omega
 have hle:f.le (f.add H.size ⟨e.r,a0,e.N,false⟩):=Inj.zGG hnone
 have zJA:∀ x,((H.put b xB).push (.cells (old++new).toArray el' zN)).get x=if x=H.size then some (.cells (old++new).toArray el' zN) else if x=b then some xB else H.get x:=by
  intro x;rw[IH.zFK,IH.size_put,IH.get_put]
 have l2:(overwrite c'.toList (a0+old.length) new').length=c'.size:=by rw[vM _ _ _ (by simp;omega)];simp
 have hO:tX P (f.add H.size ⟨e.r,a0,e.N,false⟩) ⟨e.r,a0,e.N,false⟩ (.cells (old++new).toArray el' zN) (some (.cells (overwrite c'.toList (a0+old.length) new').toArray el' fz')):=by
  refine⟨_,_,_,rfl,by simpa [l2] using hN,by simp[l2];omega,?_,fun _=>⟨rfl,rfl,by simpa [l2] using hnf⟩,fun hx=>by simp[zN] at hx⟩;intro j v hj;simp only[zO3] at hj ⊢;rw[qVA _ _ _ (by simp;omega)];rw[zQ6] at hj;by_cases a1:j < old.length
  ·rw[if_pos a1] at hj;rw[if_pos (by omega),q6O];obtain⟨u,hu1,hu2⟩:=ho.get hj;have:=hold j u hu1;simp only[World.cell?,hr] at this;exact⟨u,by simpa using this,hu2.mono hle⟩
  ·rw[if_neg a1] at hj;have hjn:j - old.length < new.length:=(zM6.1 hj).1;rw[if_neg (by omega),if_pos (by omega),show a0+j - (a0+old.length)=j - old.length by omega];obtain⟨u,hu1,hu2⟩:=hn.get hj;exact⟨u,hu1,hu2.mono hle⟩
 refine⟨_,f.add H.size ⟨e.r,a0,e.N,false⟩,hrun,⟨?_,?_,?_,?_,?_,?_⟩,⟨by simp,(fun b hb hn=>by rw[Inj.zFC (by omega)];exact hn),hle,by simp[World.put],?_,?_,⟨rfl,rfl,rfl⟩,fun r h=>h.put hr fun _ h=>by cases h⟩,Inj.add_same,⟨by simp,?_⟩⟩
 ·intro x y hx;by_cases e1:x=H.size
  ·subst e1;simp
  ·rw[Inj.zFC e1] at hx;have:=hR.dom x y hx;simp;omega
 ·intro x hx;simp only[IH.size_push,IH.size_put] at hx;rw[zJA,if_neg (by omega),if_neg (by omega)];exact hR.fresh x (by omega)
 ·intro x y hx;by_cases e1:x=H.size
  ·subst e1;rw[Inj.add_same] at hx;cases hx;simpa [World.put] using hlt
  ·rw[Inj.zFC e1] at hx;have:=hR.bound x y hx;simpa [World.put] using this
 ·intro x y ox hx hox;rw[zJA] at hox;by_cases e1:x=H.size
  ·subst e1;rw[Inj.add_same] at hx;cases hx;rw[if_pos rfl] at hox;cases hox;rw[heap_put hlt,if_pos rfl];exact hO
  ·rw[Inj.zFC e1] at hx;rw[if_neg e1] at hox;by_cases e2:x=b
   ·rw[if_pos e2] at hox;cases hox;simp[tX,xB]
   ·rw[if_neg e2] at hox;rw[heap_put hlt];by_cases e3:y.r=e.r
    ·by_cases hlx:live ox=true
     ·have:=hR.sep x b y e ox _ e2 hx hb hox hg hlx rfl e3;rw[hro] at this;exact absurd this.2 (by simp)
     ·cases ox <;> simp[live] at hlx;simp[tX]
    ·rw[if_neg e3];exact (hR.obj x y ox hx hox).mono hle
 ·intro b1 b2 e1 e2 o1 o2 hne h1' h2' g1 g2 l1 l2' hrr;rw[zJA] at g1 g2
  -- a block at the row of b that is not b is dead
  have other:∀ x y ox,x≠H.size->f x=some y->(if x=b then some xB else H.get x)=some ox->live ox=true->y.r≠e.r:=by
   intro x y ox _ hx hox hlx hyr;by_cases e2:x=b
   ·rw[if_pos e2] at hox;cases hox;simp[live,xB] at hlx
   ·rw[if_neg e2] at hox;have:=hR.sep x b y e ox _ e2 hx hb hox hg hlx rfl hyr;rw[hro] at this;exact absurd this.2 (by simp)
  by_cases x1:b1=H.size
  ·subst x1;rw[Inj.add_same] at h1';cases h1';rw[Inj.zFC (Ne.symm hne)] at h2';rw[if_neg (Ne.symm hne)] at g2;exact absurd hrr.symm (other b2 e2 o2 (Ne.symm hne) h2' g2 l2')
  ·rw[Inj.zFC x1] at h1';rw[if_neg x1] at g1;by_cases x2:b2=H.size
   ·subst x2;rw[Inj.add_same] at h2';cases h2';exact absurd hrr (other b1 e1 o1 x1 h1' g1 l1)
   ·rw[Inj.zFC x2] at h2';rw[if_neg x2] at g2;by_cases y1:b1=b
    ·rw[if_pos y1] at g1;cases g1;simp[live,xB] at l1
    ·by_cases y2:b2=b
     ·rw[if_pos y2] at g2;cases g2;simp[live,xB] at l2'
     ·rw[if_neg y1] at g1;rw[if_neg y2] at g2;exact hR.sep b1 b2 e1 e2 o1 o2 hne h1' h2' g1 g2 l1 l2' hrr
 ·intro b1 b2 e1 e2 h1' h2' hrr;by_cases x1:b1=H.size
  ·subst x1;rw[Inj.add_same] at h1';cases h1';by_cases x2:b2=H.size
   ·subst x2;rw[Inj.add_same] at h2';cases h2';rfl
   ·rw[Inj.zFC x2] at h2';have:=hR.zFU b2 b e2 e h2' hb hrr.symm;simp only;rw[this,hro]
  ·rw[Inj.zFC x1] at h1';by_cases x2:b2=H.size
   ·subst x2;rw[Inj.add_same] at h2';cases h2';have:=hR.zFU b1 b e1 e h1' hb hrr;simp only;rw[this,hro]
   ·rw[Inj.zFC x2] at h2';exact hR.zFU b1 b2 e1 e2 h1' h2' hrr
 ·intro r hrs hno;refine⟨?_,by rw[heap_put hlt,if_neg (fun hx=>hno ⟨b,e,hb,hx.symm,hro⟩)]⟩;rintro⟨x,y,hx,hyr,hyo⟩;by_cases e1:x=H.size
  ·subst e1;rw[Inj.add_same] at hx;cases hx;exact hno ⟨b,e,hb,hyr,hro⟩
  ·rw[Inj.zFC e1] at hx;exact hno ⟨x,y,hx,hyr,hyo⟩
 ·intro r hrs hu x y hx;by_cases e1:x=H.size
  ·subst e1;rw[Inj.add_same] at hx;cases hx;exact hu b e hb
  ·rw[Inj.zFC e1] at hx;exact hu x y hx
 ·intro x hx hnx;rw[zJA,if_neg (by omega),if_neg (fun hxb=>by subst hxb;rw[hb] at hnx;cases hnx)]
theorem dZ (z:Array Value)(n:Nat):(Builtin.zeroCells z n).size=n*z.size:=by simp[Builtin.zeroCells]
theorem qA8 {z:Array Value}(h:zQ z.toList=true)(n:Nat):zQ (Builtin.zeroCells z n).toList=true:=by
 rw[xO];intro v hv;simp only[Builtin.zeroCells,zPP,zNO] at hv;obtain⟨i,_,rfl⟩:=hv;rw[Array.getElem!_eq_getD];unfold Array.getD;split
 ·exact xO.1 h _ (by simp)
 ·exact mU
theorem qGV {size n:Nat}{H:IH}{x:Value}{l:List Value}(h:kX size n H x=some l)(h0:n=0):l=[]:=by
 subst h0;exact fJ h
end Go.Idl
namespace Go.Idl
variable {P:Program}
variable {H:IH}{base':Option Addr}{cap' len n:Nat}{elem st ty xt:TypeId}{f:Inj}{new new' old':List Value}{w:World}{x' z:Value}
inductive zJB (P:Program) (info:TypeInfo) (elem xt:TypeId) (x':Value) (n:Nat) (new':List Value) (w:World):Prop
 | src (xd:TypeDesc) (hxd:P.underlying xt=some xd) (hni:∀ k,xd≠.int k) (hlen:∀ w',(Builtin.lenOf x').run P w'=.ok n w')
    (hc:∀ w',w'.heap=w.heap->(Builtin.firstCells info.size n x').run P w'=.ok new'.toArray w')
 | zero (k kk:IntKind) (l:Int) (hxd:P.underlying xt=some (.int k)) (hx:x'=.int kk l) (h0:0<=l) (hl:l<=65536) (hb:l.toNat*info.bytes<=2 ^ 40) (hn:n=l.toNat)
    (hnew:(n*info.size=0∧new'=[])∨(n*info.size≠0∧∃ z,fD P elem=some z∧new'=(Builtin.zeroCells z.cells n).toList))
theorem vF {w1:World}{info:TypeInfo}
 (hu:P.underlying st=some (.slice elem)) (hi:P.info? elem=some info) (hs:zJB P info elem xt x' n new' w) (hroom:len+n<=cap')
 (hst:∀ a,base'=some a->(storeCells (a.add (len*info.size)) new').run P w=.ok () w1) (hno:base'=none->w1=w) :
 (Builtin.append_ #[st,xt] ty #[.slice base' len cap',x']).run P w=.ok (.slice base' (len+n) cap') w1:=by
 have fin:∀ (b:Bool),(match base' with
  | some a=>storeCells (a.add (len*info.size)) new'
  | none=>(pure ():Sem Unit)).run P w=.ok () w1:=by
  intro _
  cases base' with
  | none=>rw[hno rfl];simp
  | some a=>exact hst a rfl
 cases hs with
 | src xd hxd hni hlen hc =>
   have hxi:(xd matches .int _)=false:=by
    cases xd <;> first | rfl | (rename_i k;exact absurd rfl (hni k))
   have h1:=hc w rfl
   cases base' with
   | none=>simp[Builtin.append_,run_underlying hu,run_underlying hxd,sizeOf,typeInfo,hi,hlen,hroom,h1,hno rfl]
   | some a=>simp[Builtin.append_,run_underlying hu,run_underlying hxd,sizeOf,typeInfo,hi,hlen,hroom,h1,hst a rfl]
 | zero k kk l hxd hx h0 hl hb hn hnew =>
   subst hx;subst hn;have hw:IntKind.i64.wrap l=l:=wrap_i64 h0 (by omega)
   have hlb:¬ (281474976710656 < l*(info.bytes:Int)):=by
    have:l*(info.bytes:Int)=((l.toNat*info.bytes:Nat):Int):=by rw[Int.natCast_mul,Int.toNat_of_nonneg h0]
    omega
   have hl0:¬ (l < 0):=by omega
   rcases hnew with ⟨hz0,rfl⟩ | ⟨hz0,z,hz,rfl⟩
   ·have hz0':l<=0∨info.size=0:=by
     rcases zQN.1 hz0 with h | h
     ·exact .inl (by omega)
     ·exact .inr h
    cases base' with
    | none=>simp[Builtin.append_,run_underlying hu,run_underlying hxd,sizeOf,typeInfo,hi,asInt,asIntOf,hw,hl0,hlb,hroom,hz0,hno rfl]
    | some a =>
      have hst':=hst a rfl;have e:w=w1:=by simpa [storeCells] using hst'
      subst e;simp[Builtin.append_,run_underlying hu,run_underlying hxd,sizeOf,typeInfo,hi,asInt,asIntOf,hw,hl0,hlb,hroom,hz0,storeCells]
   ·have hz0':¬ (l<=0∨info.size=0):=by
     intro h;rcases h with h | h
     ·apply hz0;rw[show l.toNat=0 by omega];simp
     ·apply hz0;rw[h];simp
    have hzr:=wU hz w
    cases base' with
    | none=>simp[Builtin.append_,run_underlying hu,run_underlying hxd,sizeOf,typeInfo,hi,asInt,asIntOf,hw,hl0,hlb,hroom,hz0,hno rfl,hzr]
    | some a =>
      have hst':=hst a rfl;simp[Builtin.append_,run_underlying hu,run_underlying hxd,sizeOf,typeInfo,hi,asInt,asIntOf,hw,hl0,hlb,hroom,hz0,hst',hzr]
theorem qH8 {info:TypeInfo}
 (hu:P.underlying st=some (.slice elem)) (hi:P.info? elem=some info) (hz:fD P elem=some z) (hs:zJB P info elem xt x' n new' w) (hroom:cap' < len+n)
 (h1:len+n<=2 ^ 40) (h2:(len+n)*info.bytes<=2 ^ 45)
 (hold:(Builtin.firstCells info.size len (.slice base' len cap')).run P w.drew=.ok old'.toArray w.drew) :
 (Builtin.append_ #[st,xt] ty #[.slice base' len cap',x']).run P w=.ok (.slice (some ⟨w.heap.size,0,none⟩) (len+n) (grownCap w (len+n) cap' elem))
   (w.drew.alloc (.cells ((old'++new').toArray++Builtin.zeroCells z.cells (grownCap w (len+n) cap' elem - (len+n))) elem)):=by
 have hn:¬ (len+n<=cap'):=by omega
 have h63:¬ (9223372036854775807 < ((len:Int)+(n:Int))):=by omega
 have hnx:=q4T hroom
 have h48:¬ (281474976710656 < Builtin.nextslicecap (len+n) cap'*info.bytes):=by
  have:Builtin.nextslicecap (len+n) cap'*info.bytes<=2*(len+n)*info.bytes:=zN4 _ hnx;rw[Nat.mul_assoc] at this;omega
 obtain⟨i2,hi2,hz2⟩:∃ i,P.info? elem=some i∧i.zero=some z:=by
  unfold fD at hz;rw[hi] at hz;exact⟨info,hi,hz⟩
 rw[hi] at hi2;cases hi2
 cases hs with
 | src xd hxd hni hlen hc =>
   have hxi:(xd matches .int _)=false:=by
    cases xd <;> first | rfl | (rename_i k;exact absurd rfl (hni k))
   have h3:=hc w.drew rfl;simp[Builtin.append_,run_underlying hu,run_underlying hxd,sizeOf,typeInfo,zeroValue,hi,hz2,hlen,hn,h63,h48,Question.forced,h3,hold,newRow,grownCap]
   congr 2
   apply zOJ;simp[zNN]
 | zero k kk l hxd hx h0 hl hb hn' hnew =>
   subst hx;subst hn';have hw:IntKind.i64.wrap l=l:=wrap_i64 h0 (by omega)
   have hlb:¬ (281474976710656 < l*(info.bytes:Int)):=by
    have:l*(info.bytes:Int)=((l.toNat*info.bytes:Nat):Int):=by rw[Int.natCast_mul,Int.toNat_of_nonneg h0]
    omega
   have hl0:¬ (l < 0):=by omega
   have hmax:max l 0=l:=by omega
   have h63':¬ (9223372036854775807 < (len:Int)+l):=by omega
   rcases hnew with ⟨hz0,rfl⟩ | ⟨hz0,z',hz',rfl⟩
   ·have hz0':l<=0∨info.size=0:=by
     rcases zQN.1 hz0 with h | h
     ·exact .inl (by omega)
     ·exact .inr h
    simp[Builtin.append_,run_underlying hu,run_underlying hxd,sizeOf,typeInfo,zeroValue,hi,hz2,asInt,asIntOf,hw,hl0,hlb,hn,hmax,h63',h48,Question.forced,hz0,hold,newRow,grownCap]
   ·rw[hz] at hz';cases hz'
    have hz0':¬ (l<=0∨info.size=0):=by
     intro h;rcases h with h | h
     ·apply hz0;rw[show l.toNat=0 by omega];simp
     ·apply hz0;rw[h];simp
    simp[Builtin.append_,run_underlying hu,run_underlying hxd,sizeOf,typeInfo,zeroValue,hi,hz2,asInt,asIntOf,hw,hl0,hlb,hn,hmax,h63',h48,Question.forced,hz0,hold,newRow,grownCap]
    congr 2
    apply zOJ;simp[zNN]
theorem qK8 {info:TypeInfo}{xd:TypeDesc}{x:Value}(hR:Rel P f H w)
 (hxd:P.underlying xt=some xd) (h:qLM P elem info xd x H=some (n,new)) (hx:zFB P f x x') :
 ∃ new',zJB P info elem xt x' n new' w∧qE P f new new'∧(((fD P elem).map (·.cells.size))=some info.size->new.length=n*info.size)∧(n=0->new=[]):=by
 have src:(∀ k,xd≠.int k)->(match xZ x with
  | some n=>cond (qS2 info.size x) ((kX info.size n H x).map fun l=>(n,l)) none
  | none=>none)=some (n,new)->∃ new',zJB P info elem xt x' n new' w∧qE P f new new'∧(((fD P elem).map (·.cells.size))=some info.size->new.length=n*info.size)∧(n=0->new=[]):=by
  intro hni h;split at h
  ·rename_i m hm
   cases hs:qS2 info.size x with
   | false=>rw[hs] at h;cases h
   | true =>
     rw[hs] at h;simp only[cond_true,zM8] at h;obtain⟨l,hl,he⟩:=h;cases he;obtain⟨l',h1,h2,h3⟩:=qDT hR hl hx hm (zM0 _);refine⟨l',.src xd hxd hni (fun w'=>qJW hx hm w') h1,h2,fun _=>?_,fun h0=>qGV hl h0⟩
     cases x with
      | slice a b c=>exact h3 ⟨a,b,c,rfl⟩
      | string s =>
        have hsz:info.size=1:=by simpa [qS2] using hs
        simp[xZ] at hm;by_cases hm0:n=0
        ·rw[hm0] at hl ⊢;rw[fJ hl];simp
        ·unfold kX at hl;rw[if_neg hm0] at hl;simp[wK] at hl;subst hl;rw[hsz,<-hm];simp
      | _=>simp[xZ] at hm
  ·cases h
 unfold qLM at h;split at h
 ·rename_i k;split at h
  ·rename_i kk l;split at h
   ·rename_i hc;simp only[zMY,decide_eq_true_eq] at hc;obtain⟨⟨h0,hl⟩,hb⟩:=hc;have hxi:=hx.int;subst hxi;split at h
    ·rename_i hz;cases h;exact⟨[],.zero k kk l hxd rfl h0 hl hb rfl (.inl ⟨hz,rfl⟩),.nil,fun _=>by simp[hz],fun _=>rfl⟩
    ·rename_i hz;simp only[zM8] at h;obtain⟨z,hzp,he⟩:=h;cases he;obtain⟨hz0,hp⟩:=jN hzp
     exact⟨_,.zero k kk l hxd rfl h0 hl hb rfl (.inr ⟨hz,z,hz0,rfl⟩),.zFR (qA8 hp _),fun hzs=>by
      rw[hz0] at hzs;simp only[zNE,zM7] at hzs
      rw[zN8,dZ,hzs],fun h0=>absurd (by rw[h0];simp) hz⟩
   ·cases h
  ·cases h
 ·rename_i hni;exact src (fun k hk=>hni k hk) h
theorem qW2 {info:TypeInfo}{old:List Value}(hR:Rel P f H w)
 (hi:P.info? elem=some info) (hzs:z.cells.size=info.size) (ho:qE P f old old') (hn:qE P f new new') (hol:old.length=len*info.size) (hnl:new.length=n*info.size) :
 ∃ f',Rel P f' (H.push (.cells (old++new).toArray elem zN)) (w.drew.alloc (.cells ((old'++new').toArray++Builtin.zeroCells z.cells (grownCap w (len+n) cap' elem - (len+n))) elem)) ∧
  Grow f H w f' (H.push (.cells (old++new).toArray elem zN)) (w.drew.alloc (.cells ((old'++new').toArray++Builtin.zeroCells z.cells (grownCap w (len+n) cap' elem - (len+n))) elem)) ∧
  zFB P f' (.slice (some ⟨H.size,0,some elem⟩) (len+n) (len+n)) (.slice (some ⟨w.heap.size,0,none⟩) (len+n) (grownCap w (len+n) cap' elem)):=by
 have hge:=grownCap_ge w (len+n) cap' elem;have hRd:Rel P f H w.drew:=hR.world rfl
 have hnone:f H.size=none:=by
  cases hx:f H.size with
  | none=>rfl
  | some y=>have:=hR.dom _ _ hx;omega
 generalize hg:grownCap w (len+n) cap' elem=g at *;have hcs:P.cellsOf elem=info.size:=by simp[Program.cellsOf,hi]
 have hlo:old'.length=len*info.size:=by rw[<-ho.1,hol]
 have hln:new'.length=n*info.size:=by rw[<-hn.1,hnl]
 have hsz:((old'++new').toArray++Builtin.zeroCells z.cells (g - (len+n))).size=g*info.size:=by
  simp only[Array.size_append,zPN,zNK,dZ,hzs,hlo,hln,<-zPK]
  congr 1;omega
 have hle:f.le (f.add H.size ⟨w.heap.size,0,g*info.size,false⟩):=Inj.zGG hnone
 have hO:tX P (f.add H.size ⟨w.heap.size,0,g*info.size,false⟩) ⟨w.heap.size,0,g*info.size,false⟩ (.cells (old++new).toArray elem zN)
  (some (.cells ((old'++new').toArray++Builtin.zeroCells z.cells (g - (len+n))) elem)):=by
  refine⟨_,_,_,rfl,hsz,?_,?_,fun _=>⟨rfl,rfl,fun j _=>by simp⟩,fun hx=>by simp[zN] at hx⟩
  ·have hl:=(ho.append hn).1;simp only[Array.size_append,zPN,<-hl];omega
  ·intro j v hj;obtain⟨u,h1,h2⟩:=(ho.append hn).get (i:=j) (v:=v) (by simpa using hj);refine⟨u,?_,h2.mono hle⟩;have hjl:j < (old'++new').length:=(zM6.1 h1).1;rw[zNY,Array.getElem?_append,if_pos (by simpa using hjl)];simpa using h1
 obtain⟨r1,r2⟩:=Rel.push (e:=⟨w.heap.size,0,g*info.size,false⟩) hRd rfl hO;refine⟨_,r1,⟨r2.zF7,r2.stay,r2.le,r2.size,r2.keep,r2.un,r2.out,r2.lps⟩,?_⟩;have:=zFB.room (P:=P) (o:=0) (el:=elem) (len:=len+n) (cap:=len+n) (cap':=g) (Inj.add_same (f:=f) (b:=H.size) (e:=⟨w.heap.size,0,g*info.size,false⟩)) hge (by simp[hcs]);simpa using this
end Go.Idl
namespace Go.Idl
variable {P:Program}
variable {H H':IH}{base base':Option Addr}{cap cap' len n:Nat}{elem st ty xt:TypeId}{f:Inj}{new:List Value}{v x x':Value}{w:World}
theorem qJM {info:TypeInfo}{xd:TypeDesc}
 (hR:Rel P f H w) (hu:P.underlying st=some (.slice elem)) (hi:P.info? elem=some info) (hxd:P.underlying xt=some xd)
 (hb:zFB P f (.slice base len cap) (.slice base' len cap')) (hroom:len+n<=cap)
 (hnew:qLM P elem info xd x H=some (n,new)) (hx:zFB P f x x') (h:qLJ elem info.size base len cap (len+n) new H=some (.val v H')) :
 Post P f H w v H' ((Builtin.append_ #[st,xt] ty #[.slice base' len cap',x']).run P w):=by
 obtain⟨new',hs,hn,_,hn0⟩:=qK8 hR hxd hnew hx;unfold qLJ at h;split at h
 ·rename_i a;split at h
  ·rename_i hel
   have hval:∃ e,f a.block=some e∧len+n<=cap'∧zFB P f (.slice (some a) (len+n) cap) (.slice base' (len+n) cap')∧(base'=some ⟨e.r,a.off+e.shift,none⟩∨n=0):=by
    cases hb with
    | base _ hp=>have hp':false=true:=hp;cases hp'
    | sl hb=>exact⟨_,hb,hroom,.sl hb,.inl rfl⟩
    | room hb hc hN=>exact⟨_,hb,by omega,.room hb hc hN,.inl rfl⟩
    | zF3 hb hsh hN =>
      have:n=0:=by omega
      subst this;exact⟨_,hb,by omega,.zF3 hb hsh hN,.inr rfl⟩
    | gh hb hg =>
      have:n=0:=by omega
      subst this;exact⟨_,hb,by omega,.gh hb hg,.inr rfl⟩
   obtain⟨e,he,zJN,hv,hbase⟩:=hval
   have zIF:new=[]->Post P f H w (.slice (some a) (len+n) cap) H ((Builtin.append_ #[st,xt] ty #[.slice base' len cap',x']).run P w):=by
    intro hne;subst hne;have:=hn.zFF;subst this;refine .same hR (v':=.slice base' (len+n) cap') (vF hu hi hs zJN (fun a _=>by simp[storeCells]) (fun _=>rfl)) hv
   split at h
   ·rename_i hne;obtain⟨rfl,rfl⟩:=val_inj h;exact zIF (by simpa using hne)
   ·rename_i hne;split at h
    ·rename_i H2 hst;obtain⟨rfl,rfl⟩:=val_inj h;rcases hbase with hbase | hz
     ·obtain⟨w',e1,e2,e3,e4⟩:=pY hR he hst hn;refine⟨_,w',f,vF (w1:=w') hu hi hs zJN (fun a' ha'=>?_) (fun hno=>by rw[hbase] at hno;cases hno),e2,e3,hv,e4⟩;rw[hbase] at ha';cases ha';rw[yX,show a.off+e.shift+len*info.size=a.off+len*info.size+e.shift by omega];exact e1
     ·exact absurd (by simp[hn0 hz]) hne
    ·cases h
  ·cases h
 ·split at h
  ·rename_i hc;simp only[zMY,beq_iff_eq] at hc;obtain⟨rfl,rfl⟩:=hc;obtain⟨rfl,rfl⟩:=val_inj h;have hb0:=hb.zGL;cases hb0;have:n=0:=by omega
   subst this;exact .same hR (v':=.slice none (0+0) 0) (vF hu hi hs (by omega) (fun a ha=>by cases ha) (fun _=>rfl)) (.base _ rfl)
  ·cases h
theorem qJ6 {info:TypeInfo}{xd:TypeDesc}
 (hR:Rel P f H w) (hu:P.underlying st=some (.slice elem)) (hi:P.info? elem=some info) (hxd:P.underlying xt=some xd)
 (hb:zFB P f (.slice base len cap) (.slice base' len cap')) (hroom:cap < len+n)
 (hnew:qLM P elem info xd x H=some (n,new)) (hx:zFB P f x x') (h:qSA P elem info base len cap (len+n) new H=some (.val v H')) :
 Post P f H w v H' ((Builtin.append_ #[st,xt] ty #[.slice base' len cap',x']).run P w):=by
 obtain⟨new',hs,hn,hnl,hn0⟩:=qK8 hR hxd hnew hx;have hcs:P.cellsOf elem=info.size:=by simp[Program.cellsOf,hi]
 unfold qSA at h;split at h
 ·rename_i hc;simp only[zMY,decide_eq_true_eq,beq_iff_eq,zM1] at hc;obtain⟨⟨⟨h40,h45⟩,h1⟩,hzs⟩:=hc;have zIG:=hnl hzs
  obtain⟨z,hz,zLK⟩:∃ z,fD P elem=some z∧z.cells.size=info.size:=by
   cases hz:fD P elem with
   | none=>rw[hz] at hzs;cases hzs
   | some z=>rw[hz] at hzs;simp at hzs;exact⟨z,rfl,hzs⟩
  split at h
  ·rename_i old H2 hold hk;obtain⟨rfl,rfl⟩:=val_inj h;obtain⟨old',ho1,ho2,ho3⟩:=qJA hR hold hb (m:=len) (by simp[xZ]) (zM0 _);have hol:=ho3 ⟨_,_,_,rfl⟩
   -- a new row,where the elder ideal block may have died
   have zGU:cap' < len+n->(H2=H∨∃ b e,f b=some e∧H2=H.put b xB) ->
    Post P f H w (.slice (some ⟨H2.size,0,some elem⟩) (len+n) (len+n)) (H2.push (.cells (old++new).toArray elem zN)) ((Builtin.append_ #[st,xt] ty #[.slice base' len cap',x']).run P w):=by
    intro hcap hH;have hrun:=qH8 (ty:=ty) hu hi hz hs hcap h40 h45 (ho1 w.drew rfl)
    have hR2:Rel P f H2 w:=by
     rcases hH with rfl | ⟨b,e,hbe,rfl⟩
     ·exact hR
     ·exact hR.kill hbe
    have hK:Keep f H (H2.push (.cells (old++new).toArray elem zN)):=by
     rcases hH with rfl | ⟨b,e,hbe,rfl⟩
     ·exact .push
     ·refine⟨by simp,fun y hy hny=>?_⟩;rw[IH.zFK,IH.size_put,if_neg (by omega),IH.get_put,if_neg (fun hyb=>by subst hyb;rw[hbe] at hny;cases hny)]
    obtain⟨f',g1,g2,g3⟩:=qW2 (cap':=cap') hR2 hi zLK ho2 hn hol zIG
    have hsz:H2.size=H.size:=by
     rcases hH with rfl | ⟨b,e,hbe,rfl⟩
     ·rfl
     ·rfl
    exact⟨_,_,f',hrun,g1,g2.sizes (by rw[hsz];exact zM0 _) (zM0 _),g3,hK⟩
   cases hb with
   | base _ hp =>
     have hbase:base=none:=by
      cases base with
      | none=>rfl
      | some a=>have hp':false=true:=hp;cases hp'
     subst hbase;simp only[qJL,zM7] at hk;exact zGU hroom (.inl hk.symm)
   | sl hb' =>
     simp only[qJL,zM7] at hk;exact zGU hroom (.inl hk.symm)
   | gh hb' hg =>
     simp only[wK] at hold;exact (qPO hR hb' hg hold).elim
   | @room b o el _ _ _ e hb' hcc hN =>
     simp only[qJL] at hk;split at hk
     ·rename_i c el' fz hg;split at hk
      ·rename_i hcond;simp only[zMY,beq_iff_eq,decide_eq_true_eq] at hcond;obtain⟨⟨⟨hfz,hbase⟩,rfl⟩,rfl⟩:=hcond;simp only[zM7] at hk;subst hk;by_cases hcap:cap' < len+n
       ·exact zGU hcap (.inr ⟨b,e,hb',rfl⟩)
       ·simp only[wK] at hold;obtain⟨old2,q1,q2,q3⟩:=aX hR hb' hold
        have hfit:o+e.shift+old.length+new.length<=e.N:=by
         have:(len+n)*info.size<=cap'*info.size:=zN4 _ (by omega);rw[hol,zIG];rw[hcs] at hN;rw[zPK] at this;omega
        obtain⟨w',f',p1,p2,p3,p4,p5⟩:=qVM (a0:=o+e.shift) hR hb' hg hfz q1 hn hfit h1 (fun j u hj=>by have:=q3 j u hj;rwa [yX] at this);refine⟨_,w',f',vF (w1:=w') hu hi hs (by omega) (fun a ha=>?_) (fun hno=>by cases hno),p2,p3,?_,p5⟩
        ·cases ha;rw[yX,<-hol];exact p1
        ·have:=zFB.room (P:=P) (o:=0) (el:=el') (len:=len+n) (cap:=len+n) (cap':=cap') p4 (by omega) (by simpa using hN);simpa using this
      ·cases hk
     ·cases hk
   | @zF3 b o o' el _ e hb' hsh hN =>
     simp only[qJL] at hk;split at hk
     ·rename_i c el' fz hg;split at hk
      ·rename_i hcond;simp only[zMY,beq_iff_eq,decide_eq_true_eq] at hcond;obtain⟨⟨⟨hfz,hbase⟩,rfl⟩,rfl⟩:=hcond;simp only[zM7] at hk;subst hk;by_cases hcap:cap' < 0+n
       ·exact zGU hcap (.inr ⟨b,e,hb',rfl⟩)
       ·have zKK:old=[]:=by simpa using hol
        subst zKK
        have hfit:o'+([]:List Value).length+new.length<=e.N:=by
         have:n*info.size<=cap'*info.size:=zN4 _ (by omega);rw[zIG];rw[hcs] at hN;simp only[zQ8];omega
        obtain⟨w',f',p1,p2,p3,p4,p5⟩:=qVM (a0:=o') hR hb' hg hfz (.nil:qE P f [] []) hn hfit h1 (fun j u hj=>by simp at hj);refine⟨_,w',f',vF (w1:=w') hu hi hs (by omega) (fun a ha=>?_) (fun hno=>by cases hno),p2,p3,?_,p5⟩
        ·cases ha;rw[yX];simpa using p1
        ·have:=zFB.room (P:=P) (o:=0) (el:=el') (len:=0+n) (cap:=0+n) (cap':=cap') p4 (by omega) (by simpa using hN);simpa using this
      ·cases hk
     ·cases hk
  ·cases h
 ·cases h
theorem qSK {at_:Array TypeId}{as as':List Value}{t:TypeId}(hR:Rel P f H w)(h:uV P at_ as H=some (.val v H'))(ha:qE P f as as') :
 Post P f H w v H' ((Builtin.append_ at_ t as'.toArray).run P w):=by
 unfold uV at h;split at h
 ·rename_i st xt base len cap x hat;obtain⟨s',r1,rfl,hs,hr1⟩:=ha.zFD;obtain⟨x',r2,rfl,hx,hr2⟩:=hr1.zFD;have:=hr2.zFF;subst this;obtain⟨a',c',rfl⟩:=hs.zGI;have zJ0:at_=#[st,xt]:=by apply zOJ;simpa using hat
  subst zJ0;split at h
  ·rename_i elem hu;split at h
   ·rename_i info xd hi hxd;unfold wD at h;split at h
    ·rename_i n new hnew;split at h
     ·exact qJM hR hu hi hxd hs (by assumption) hnew hx h
     ·exact qJ6 hR hu hi hxd hs (by omega) hnew hx h
    ·cases h
   ·cases h
  ·cases h
 ·cases h
end Go.Idl
