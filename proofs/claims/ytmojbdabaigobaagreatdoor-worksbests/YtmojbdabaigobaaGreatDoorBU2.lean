/- Plain laws of chapter 9: drawn sequences; the best sequence, improved ones, set-up times one longer. Conditions: none. -/
import Derived.Test.YtmojbdabaigobaaGreatDoorSU7
import Derived.Test.YtmojbdabaigobaaGreatDoorBU1
set_option linter.all false
set_option maxRecDepth 10000
set_option maxHeartbeats 100000000
namespace Go.Proofs.YtmojbdabaigobaaGreatDoor
open Go Go.Idl Go.Sv Go.Proofs
theorem q2R {o:List Int}(h:o.Nodup):Ds o:=fun i j hij hj e=>by
 rw[zRG,List.pairwise_iff_getElem] at h;rw[gDE (by omega),gDE hj] at e;exact h i j (by omega) hj hij e
theorem zAI {o:List Int}:Pm o ↔ (∀ x∈o,0<=x∧x < o.length)∧o.Nodup:=by
 rw[q1Q rfl];constructor
 ·rintro⟨h1,h2⟩;refine⟨fun x hx=>?_,qQL h2⟩;obtain⟨j,hj,rfl⟩:=zPI.1 hx;have:=h1 j hj;rw[gDE hj] at this;exact this
 ·rintro⟨h1,h2⟩;exact⟨fun j hj=>by rw[gDE hj];exact h1 _ (zP8 hj),q2R h2⟩
theorem zBK {o:List Int}{p:Nat}(h:Pm o)(hp:p<=o.length):Pm (o.take p++[(o.length:Int)]++o.drop p)∧(o.take p++[(o.length:Int)]++o.drop p).length=o.length+1:=by
 obtain⟨h1,h2⟩:=zAI.1 h
 have zKS:(o.take p++[(o.length:Int)]++o.drop p).Perm ((o.length:Int)::o):=by
  rw[zPE];have:=@List.perm_middle _ (o.length:Int) (o.take p) (o.drop p)
  rwa [zRT] at this
 have hl:=zKS.length_eq;rw[zO4] at hl;refine⟨zAI.2 ⟨fun x hx=>?_,zKS.symm.nodup (List.nodup_cons.2 ⟨fun hm=>?_,h2⟩)⟩,hl⟩
 ·rw[hl];rcases zO1.1 (zKS.mem_iff.1 hx) with rfl | hx
  ·omega
  ·have:=h1 x hx;omega
 ·have:=h1 _ hm;omega
theorem h42 {key:Int}{n:Nat}(hn:n<=256):H42 (key,(n:Int))=some (if key < 1∨2147483646 < key then 3 else 0):=by
 refine OkT.eq ?_;show OkT (G42 key (n:Int)) _;unfold G42;refine zT (fun c=>zT (fun d=>?_) fun d=>qC ?_) fun c=>qC ?_
 ·rw[mZ,zO3] at c d;have c:=of_decide_eq_false c;have d:=of_decide_eq_false d;rw[if_neg (by omega)];exact yL (by rw[mZ,decide_eq_false (show ¬ (n:Int) < 0 by omega)];rfl) (xV (decide_eq_false (show ¬ (256:Int) < (n:Int) by omega)) (qC rfl))
 ·rw[mZ,zQC] at d;have d:=of_decide_eq_true d;rw[if_pos (.inr d)]
 ·rw[mZ,zQC] at c;have c:=of_decide_eq_true c;rw[if_pos (.inl c)]
theorem h43 {key:Int}{n:Nat}(hk:0<=key∧key<=2147483646)(hn:n<=100):∃ o,H43 (key,(n:Int))=some o∧Pm o∧o.length=n:=by
 suffices h:OkT (G43 key (n:Int)) fun o=>Pm o∧o.length=n by
  obtain⟨o,h1,h2⟩:=h;exact⟨o,h1,h2⟩
 unfold G43;refine aA n (fun i (s:Int×List Int)=>(s.1,s.2,(i:Int))) (fun i s=>(0<=s.1∧s.1<=2147483646)∧Pm s.2∧s.2.length=i) (key,[]) rfl ⟨hk,fun k h=>absurd h (zPM _),rfl⟩ ?_ ?_
 ·rintro i ⟨k,o⟩ hi ⟨⟨k1,k2⟩,hp,hl⟩;have k1:0<=k:=k1;have k2:k<=2147483646:=k2;have hp:Pm o:=hp;have hl:o.length=i:=hl;have hw:IntKind.i64.wrap (39373*k)=39373*k:=qDK (by omega) (by omega);have w1:IntKind.i64.wrap ((i:Int)+1)=((i+1:Nat):Int):=kU (by omega);have hm:(39373*k).tmod 2147483647=39373*k % 2147483647:=Int.tmod_eq_emod_of_nonneg (by omega);refine yL (pG (show (i:Int) < (n:Int) by omega)) ?_;simp only[hw,w1,hm];have hkk:0<=39373*k % 2147483647∧39373*k % 2147483647<=2147483646:=by omega
  generalize 39373*k % 2147483647=kk at *;have hr1:0<=kk % ((i+1:Nat):Int):=Int.emod_nonneg _ (by omega);have hr2:kk % ((i+1:Nat):Int) < ((i+1:Nat):Int):=Int.emod_lt_of_pos _ (by omega)
  have zL3:q7V kk ((i+1:Nat):Int)=some (kk % ((i+1:Nat):Int)):=by
   unfold q7V;rw[if_neg (by omega),Int.tmod_eq_emod_of_nonneg hkk.1]
  obtain⟨P,hP⟩:∃ P:Nat,kk % ((i+1:Nat):Int)=(P:Int):=⟨(kk % ((i+1:Nat):Int)).toNat,by omega⟩
  rw[hP] at zL3 hr2;have hPo:P<=o.length:=by omega
  have hb:=qUX hPo;have e1:List.take (P - 0) (List.drop 0 o)=o.take P:=rfl;have e2:List.take (o.length - P) (List.drop P o)=o.drop P:=zO5 (by rw[zQM];exact zOI _);obtain⟨q1,q2⟩:=zBK hp hPo;rw[hl] at q1 q2
  have hfin:∀ L:List Int,L=o.take P++[(i:Int)]++o.drop P->∃ s':Int×List Int,(Sum.inl (kk,L,((i+1:Nat):Int)):Int×List Int×Int⊕Int×List Int×Int⊕List Int⊕Nat×Int×List Int×Int)=.inl (s'.1,s'.2,((i+1:Nat):Int))∧(0<=s'.1∧s'.1<=2147483646)∧Pm s'.2∧s'.2.length=i+1:=fun L hL=>⟨(kk,L),rfl,hkk,by rw[hL];exact q1,by rw[hL];exact q2⟩
  have ht:(o.take P).length=P:=by rw[zPQ];omega
  have hd:(o.drop P).length=o.length - P:=zQM;refine zF zL3 (zF hb (zT (fun c=>zF hb (zT (fun d=>qC (hfin _ ?_)) fun d=>yL (zOV ?_) (qC (hfin _ ?_)))) fun c=>yL (zOV ?_) (yL (zOV ?_) (zF hb (zT (fun d=>qC (hfin _ ?_)) fun d=>yL (zOV ?_) (qC (hfin _ ?_)))))))
  ·rw[e1] at c;rw[e2] at d;rw[zQE (zOH c),zQE (zOH d),zQB]
  ·rw[e2];simp;omega
  ·rw[e1] at c;rw[e2,zQE (zOH c)]
  ·rw[e1];omega
  ·rw[e1];simp;omega
  ·rw[e2] at d;rw[e1,zQE (zOH d),zQB,zRS]
  ·rw[e1,e2];simp;omega
  ·rw[e1,e2,zRS]
 ·rintro⟨k,o⟩ ⟨_,hp,hl⟩;exact xV (sM (show ¬ (n:Int) < (n:Int) by omega)) (qC ⟨_,rfl,qC ⟨hp,hl⟩⟩)
theorem zET (ti fi:List Int)(se:List (List Int))(key:Int):H7 ((ti,fi,se),key)=some true:=by
 refine OkT.eq ?_;have aw:=awake;unfold H7 G7
 revert aw
 generalize H9 ()=o9;intro aw;unfold zEY.run;dsimp only;have hh:=h22 (m:=6) (ti:=ti) (fi:=fi) (se:=se) (by omega);refine uQ (fun t=>t=false->shB 6 ti fi se=true∧qC8 ti fi se=0∧0<=key∧key<=2147483646) ?_ ?_
 ·refine zF aw (yL rfl (zF hh ?_))
  cases hsh:shB 6 ti fi se with
  | false=>exact xV rfl (qC ⟨_,rfl,fun h=>by cases h⟩)
  | true =>
    obtain⟨hs,hn⟩:=q9A (by omega) hsh;refine yL rfl (zF (h23 hs) ?_);by_cases hb:qC8 ti fi se=0
    ·refine yL (by rw[hb];rfl) (zF (h42 (by omega)) (qC ⟨_,rfl,fun h=>⟨rfl,hb,?_⟩⟩));rw[bne_eq_false_iff_eq] at h;split at h
     ·cases h
     ·omega
    ·exact xV (by rw[mZ,bne_iff_ne.2 hb];rfl) (qC ⟨_,rfl,fun h=>by cases h⟩)
 intro t ht
 cases t with
 | true=>exact yL rfl (zF aw (qC rfl))
 | false =>
   obtain⟨hsh,hb,hk⟩:=ht rfl;obtain⟨hs,hn⟩:=q9A (by omega) hsh;refine xV rfl ?_;have v:=qYS hb;have hn1:=v.n1;have hn2:=v.n2;obtain⟨o,ho,hpo,hlo⟩:=h43 (n:=ti.length) hk (by omega);obtain⟨hpb,hlb,zJY⟩:=zCT (ti:=ti) (fi:=fi) (se:=se) (n:=ti.length) hn1;obtain⟨r,hr⟩:=q4O v ((tm ti fi se o).toNat+1) o hpo hlo (zPB _);obtain⟨hpr,hro,hrm⟩:=q93 hr hpo;have hlr:r.length=ti.length:=(q45 hr).trans hlo;have hlst:=qTZ (fi:=fi) (se:=se) hpb hlb;have hbo:=zJY o hpo hlo;have hbr:=zJY r hpr hlr;have hrgb:=q1X v (o:=(bq ti fi se ti.length).1) (by have:=hpb.inR;rwa [hlb] at this) (by omega);have hrgo:=q1X v (o:=o) (by rw[<-hlo];exact hpo.inR) (by omega);have hin0:=hs.t;refine zF ho (zF (h32 hs hb (by omega)) (zF (h25 hs hb hlb hpb) (zF (h26 hs hb) (zF (h25 hs hb hlo hpo) (zF (h27 hs hb hlo hpo hr) (zF (h25 hs hb hlr hpr) ?_))))));have zOE:H44 (bq ti fi se ti.length).1=some 0:=(h44 (by omega)).trans (congrArg some (qRB hpb));have zOF:H44 r=some 0:=(h44 (by omega)).trans (congrArg some (qRB hpr));refine uQ (fun t=>t=false) ?_ ?_
   ·refine yL rfl (yL (by rw[mZ];simp[hlb]) (yL (by rw[mZ];simp[hlr]) (zF zOE (zF zOF (yL rfl (yL ?_ (yL ?_ (yL ?_ (qC ⟨_,rfl,decide_eq_false ?_⟩)))))))))
    ·show zJ (decide (tm ti fi se (bq ti fi se ti.length).1 < lst ti fi se)) false=true;rw[mZ,decide_eq_false (by omega)];rfl
    ·show zJ (decide (tm ti fi se o < tm ti fi se (bq ti fi se ti.length).1)) false=true;rw[mZ,decide_eq_false (by omega)];rfl
    ·show zJ (decide (tm ti fi se o < tm ti fi se r)) false=true;rw[mZ,decide_eq_false (by omega)];rfl
    ·show ¬ tm ti fi se r < tm ti fi se (bq ti fi se ti.length).1;omega
   rintro t rfl;refine xV rfl ?_;refine aA r.length (fun a (_:Unit)=>(a:Int)) (fun _ _=>True) () rfl trivial ?_ ?_
   ·intro a _ ha _;have wa:IntKind.i64.wrap ((a:Int)+1)=((a+1:Nat):Int):=kU (by omega);refine yL (pG (show (a:Int) < (r.length:Int) by omega)) ?_;refine aA a (fun b (_:Unit)=>(b:Int)) (fun _ _=>True) () rfl trivial ?_ ?_
    ·intro b _ hb' _;have hbr:b < r.length:=by omega
     have hlab:∀ x:Int,b < (r.set a x).length:=fun x=>by rw[zPR];exact hbr
     have hrb:r.length.beq 0=false:=by cases r with | nil=>simp at ha | cons x r=>rfl
     refine yL (pG (show (b:Int) < (a:Int) by omega)) (xV hrb (yL (zOV (by show 0+r.length<=_;omega)) ?_));simp only[zPF,zRS];refine qY b rfl hbr (qR hbr (qY a rfl ha (qR ha (qY a rfl ha (qR ha (qY b rfl hbr (qR (hlab _) ?_)))))));rw[zB9 ha hbr,q60 ha hbr];have hge:=hrm b a hb' ha;refine zF (h25 hs hb (by rw[vB];exact hlr) (qWM hpr hbr ha)) ?_;refine uQ (fun t=>t=false) (yL rfl (qC ⟨_,rfl,decide_eq_false (by show ¬ tm ti fi se (sw r b a) < tm ti fi se r;omega)⟩)) ?_;rintro t rfl;exact xV rfl (qC ⟨(),by rw[kU (show b < 2 ^ 62 by omega)],trivial⟩)
    ·intro _ _;exact xV (sM (show ¬ (a:Int) < (a:Int) by omega)) (qC ⟨_,rfl,qC ⟨(),by rw[wa],trivial⟩⟩)
   intro _ _;refine xV (sM (show ¬ (r.length:Int) < (r.length:Int) by omega)) (qC ⟨_,rfl,?_⟩)
   -- set-up times one longer
   refine qFK (fun s=>∃ a:Nat,s.1=(a:Int)∧a<=ti.length∧s.2.1=mfi fi a∧s.2.2.1=mse se ti.length a∧s.2.2.2=ti∧(∀ x,x < a->fi.getD x 0 < 1000000)∧∀ x y,x < a->y < ti.length->seG se x y < 1000000) (fun s=>ti.length - s.1.toNat) ⟨0,rfl,zQD _,rfl,rfl,rfl,fun x h=>absurd h (zPM _),fun x y h=>absurd h (zPM _)⟩ ?_;rintro⟨i,f2,s2,t2⟩ ⟨a,g1,g2,g3,g4,g5,g6,g7⟩;obtain rfl:i=(a:Int):=g1;have e3:f2=mfi fi a:=g3;have e4:s2=mse se ti.length a:=g4;have e5:ti=t2:=Eq.symm g5;clear g3 g4 g5;subst e3 e4 e5;by_cases ha:a < ti.length
   ·have haf:a < fi.length:=by rw[v.f];exact ha
    have has:a < se.length:=by rw[v.s];exact ha
    have hra:se[a].length=ti.length:=by have:=v.r a has;rw[gDL has] at this;exact this
    have wa:IntKind.i64.wrap ((a:Int)+1)=((a+1:Nat):Int):=kU (by omega);refine yL (pG (show (a:Int) < (ti.length:Int) by omega)) (qY a rfl haf (qR haf (zT (fun c=>qC (qC rfl)) fun c=>qY a rfl haf (qR haf (yL (zOV (by show (mfi fi a).length+1<=_;rw[mU];omega)) ?_)))));have hfa:=v.fb.getD haf;rw[gDE haf] at hfa;have c:fi[a]≠1000000:=beq_eq_false_iff_ne.1 c;have wf:IntKind.i64.wrap (fi[a]+1)=fi.getD a 0+1:=by rw[gDE haf,qDK (by omega) (by omega)]
    simp only[wf,wa];refine qFK (fun s=>∃ b:Nat,s.1=(b:Int)∧b<=ti.length∧s.2=mrK (se.getD a []) a b∧∀ y,y < b->seG se a y < 1000000) (fun s=>ti.length - s.1.toNat) ⟨0,rfl,zQD _,rfl,fun y h=>absurd h (zPM _)⟩ ?_;rintro⟨j,row⟩ ⟨b,q1,q2,q3,q4⟩;obtain rfl:j=(b:Int):=q1;have q3:row=mrK (se.getD a []) a b:=q3;subst q3;by_cases hb2:b < ti.length
    ·have hbr:b < se[a].length:=by omega
     have wb:IntKind.i64.wrap ((b:Int)+1)=((b+1:Nat):Int):=kU (by omega);have hml:=mK (se.getD a []) a b;have hsg:seG se a b=se[a][b]:=by unfold seG;rw[gDL has,gDE hbr]
     have hrg:=v.se ha hb2;rw[hsg] at hrg;refine yL (pG (show (b:Int) < (ti.length:Int) by omega)) (qY a rfl has (qR has (qY b rfl hbr (qR hbr (zT (fun d=>qC (qC (qC rfl))) fun d=>?_)))));have d:se[a][b]≠1000000:=beq_eq_false_iff_ne.1 d
     have hnext:∀ L:List Int,L=mrK (se.getD a []) a (b+1)->(∃ b':Nat,((b+1:Nat):Int)=(b':Int)∧b'<=ti.length∧L=mrK (se.getD a []) a b'∧∀ y,y < b'->seG se a y < 1000000)∧ti.length - ((b+1:Nat):Int).toNat < ti.length - (b:Int).toNat:=fun L hL=>by
      refine⟨⟨b+1,rfl,hb2,hL,fun y hy=>?_⟩,by omega⟩;by_cases q:y=b
      ·subst q;rw[hsg];omega
      ·exact q4 y (by omega)
     have hbl:Nat.ble ((mrK (se.getD a []) a b).length+1) 1048576=true:=zOV (by omega);refine zT (fun e=>yL hbl (qC ?_)) fun e=>qY a rfl has (qR has (qY b rfl hbr (qR hbr (yL hbl (qC ?_)))))
     ·have e:a=b:=by have:=beq_iff_eq.1 e;omega
      simp only[wb];refine hnext _ ?_;show _=mrK (se.getD a []) a b++[if a=b then 0 else _];rw[if_pos e]
     ·have e:a≠b:=fun h=>by rw[h] at e;simp at e
      simp only[wb];refine hnext _ ?_;show _=mrK (se.getD a []) a b++[if a=b then 0 else _];rw[if_neg e,gDL has,gDE hbr,qDK (by omega) (by omega)]
    ·have hbt:b=ti.length:=by omega
     subst hbt;refine xV (sM (show ¬ (ti.length:Int) < (ti.length:Int) by omega)) (qC (yL (zOV (by show (mse se ti.length a).length+1<=_;rw[wS];omega)) (qC ?_)));refine⟨⟨a+1,rfl,ha,rfl,rfl,rfl,fun x hx=>?_,fun x y hx hy=>?_⟩,by show ti.length - ((a+1:Nat):Int).toNat < ti.length - (a:Int).toNat;omega⟩
     ·by_cases q:x=a
      ·subst q;rw[gDE haf];omega
      ·exact g6 x (by omega)
     ·by_cases q:x=a
      ·subst q;exact q4 y hy
      ·exact g7 x y (by omega) hy
   ·have hat:a=ti.length:=by omega
    subst hat;refine xV (sM (show ¬ (ti.length:Int) < (ti.length:Int) by omega)) (qC ?_);have hb':=zA6 v ⟨g6,g7⟩
    have hs':Sb ti (mfi fi ti.length) (mse se ti.length ti.length):=⟨hs.t,by rw[mU];omega,by rw[wS];omega,fun rr hrr=>by
     obtain⟨k,hk',rfl⟩:=zPI.1 hrr;rw[wS] at hk';have:=qBW (se:=se) (n:=ti.length) hk';rw[gDL (by rw[wS];exact hk')] at this;rw[this,mK]
     omega⟩
    have e1:=q8Z (fi:=fi) (se:=se) hpo hlo;have zL4:=h25 hs' hb' hlo hpo;rw[e1] at zL4;have zL5:=h32 hs' hb' (by omega);rw[zDF] at zL5;refine zF zL4 (zF zL5 (yL rfl (yL ?_ (zF (h45 (l:=(bq ti fi se ti.length).1) (by omega)) (qC rfl)))));show zJ (tm ti fi se o+(ti.length:Int)==IntKind.i64.wrap (tm ti fi se o+(o.length:Int))) true=true;rw[zBW,hlo,qDK (by omega) (by omega)];exact beq_self_eq_true _
end Go.Proofs.YtmojbdabaigobaaGreatDoor
