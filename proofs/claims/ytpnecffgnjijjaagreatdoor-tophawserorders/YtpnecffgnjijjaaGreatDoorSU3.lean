/- Plain laws of chapter 9: sequences are permutations. Conditions: none. -/
import Derived.Test.YtpnecffgnjijjaaGreatDoorSU2
set_option linter.all false
set_option maxRecDepth 10000
set_option maxHeartbeats 100000000
namespace Go.Proofs.YtpnecffgnjijjaaGreatDoor
open Go Go.Idl Go.Sv Go.Proofs
def okS (o:List Int)(k:Nat):Prop:=0<=o.getD k 0∧o.getD k 0 < o.length∧o.getD k 0 ∉ o.take k
instance (o:List Int) (k:Nat):Decidable (okS o k):=by unfold okS;infer_instance
def Pm (o:List Int):Prop:=∀ k,k < o.length->okS o k
def pmB (o:List Int):Bool:=(List.range o.length).all fun k=>decide (okS o k)
theorem q39 {o:List Int}:pmB o=true ↔ Pm o:=by
 unfold pmB Pm;rw[zM1];simp
def cpm (o:List Int):Int:=if pmB o=true then 0 else 15
theorem q5U {o:List Int}(h:Pm o):cpm o=0:=if_pos (q39.2 h)
theorem qSW {o:List Int}{k:Nat}(hk:k < o.length)(h:¬ okS o k):cpm o=15:=if_neg fun q=>h (q39.1 q k hk)
theorem qXT {o:List Int}{v:Int}{k:Nat}(hk:k<=o.length):v∈o.take k ↔ ∃ j,j < k∧o.getD j 0=v:=by
 constructor
 ·intro h;obtain⟨j,hj,e⟩:=zN3.1 h;rw[zOA] at hj;refine⟨j,by omega,?_⟩;rw[<-e,gDE (by omega)];simp
 ·rintro⟨j,hj,rfl⟩;rw[gDE (by omega)];exact zN3.2 ⟨j,by rw[zOA];omega,by simp⟩
theorem Pm.inR {o:List Int}(h:Pm o):InR o o.length:=fun j hj=>⟨(h j hj).1,(h j hj).2.1⟩
def sn (l:List Int):List (Int×Value):=l.map fun x=>(x,.bool true)
theorem q97 {l:List Int}{v:Int}(h:v ∉ l):qKK v (sn l)=none:=by
 induction l with
 | nil=>rfl
 | cons x l ih =>
   rw[zNF,not_or] at h;show cond (decide (x=v)) (some 0) ((qKK v (sn l)).map (·+1))=none;rw[decide_eq_false (fun q=>h.1 q.symm),ih h.2];rfl
theorem zBM {l:List Int}{v:Int}(h:v∈l):∃ i,qKK v (sn l)=some i∧(sn l)[i]?=some (v,.bool true):=by
 cases hp:qKK v (sn l) with
 | none =>
   induction l with
   | nil=>cases h
   | cons x l ih =>
     have hp:cond (decide (x=v)) (some 0) ((qKK v (sn l)).map (·+1))=none:=hp;by_cases q:x=v
     ·rw[decide_eq_true q] at hp;cases hp
     ·rw[decide_eq_false q] at hp;rcases zNF.1 h with e | e
      ·exact absurd e.symm q
      ·obtain⟨i,h1,_⟩:=ih e (Option.map_eq_none_iff.1 hp);cases h1
 | some i =>
   obtain⟨w,hw⟩:=qIP hp;refine⟨i,rfl,?_⟩;have hw2:=hw;unfold sn at hw;rw[zNC] at hw;obtain⟨x,_,e⟩:=zM8.1 hw;rw[hw2,<- (Prod.mk.inj e).2]
theorem q3B {o:List Int}{k:Nat}(hk:k < o.length):o.take (k+1)=o.take k++[o[k]]:=by
 rw[zRJ,zM2 hk];rfl
theorem zEX {o:List Int}(hl:o.length<=256):H63 o=some (cpm o):=by
 refine OkT.eq ?_;show OkT (G63 o) _;unfold G63;refine kD (decide_eq_false (show ¬ (256:Int) < (o.length:Int) by omega)) ?_;refine qXW (fun s=>∃ k:Nat,s.1=(k:Int)∧k<=o.length∧s.2=eM (sn (o.take k))∧∀ j,j < k->okS o j) (fun s=>o.length - s.1.toNat) ⟨0,rfl,zO1 _,rfl,fun j h=>by omega⟩ ?_;rintro⟨i,es⟩ ⟨k,h1,h2,h3,h4⟩;obtain rfl:i=(k:Int):=h1;have h3:es=eM (sn (o.take k)):=h3;subst h3;by_cases hk:k < o.length
 ·refine xV (qAG (show (k:Int) < (o.length:Int) by omega)) (zH k rfl hk (zB hk (yV (fun q1=>yV (fun q2=>?_) fun q2=>qC (qC ?_)) fun q1=>qC (qC ?_))))
  ·rw[qCZ,zNJ] at q1 q2;have q1:=of_decide_eq_false q1;have q2:¬ (o.length:Int)<=o[k]:=of_decide_eq_false q2;by_cases hm:o[k]∈o.take k
   ·obtain⟨p,hp1,hp2⟩:=zBM hm;refine zO (show q7A Tryz.prog 3 (.int .i64 o[k]) (eM (sn (o.take k)))=some true by rw[q21,hp1];rfl) (xV rfl (zO (show q64 Tryz.prog 3 .bool (.int .i64 o[k]) (eM (sn (o.take k)))=some true by rw[zAD hp1 hp2];rfl) (xV rfl (qC (qC ?_)))));exact (qSW hk (by rintro⟨_,_,h⟩;rw[gDE hk] at h;exact h hm)).symm
   ·refine zO (show q7A Tryz.prog 3 (.int .i64 o[k]) (eM (sn (o.take k)))=some false by rw[q21,q97 hm];rfl) (kD rfl (zO (q54 _ (q97 hm)) (qC ⟨⟨k+1,jC (by omega),hk,?_,?_⟩,?_⟩)))
    ·show eM (sn (o.take k)++[(o[k],.bool true)])=_;rw[q3B hk];unfold sn;rw[zN6];rfl
    ·intro j hj;by_cases e:j=k
     ·subst e;unfold okS;rw[gDE hk];exact⟨by omega,by omega,hm⟩
     ·exact h4 j (by omega)
    ·simp only[jC (show k < 2 ^ 62 by omega)];omega
  ·rw[qCZ,zPI] at q2;have q2:(o.length:Int)<=o[k]:=of_decide_eq_true q2;exact (qSW hk (by rintro⟨_,h,_⟩;rw[gDE hk] at h;omega)).symm
  ·rw[qCZ,zPI] at q1;have q1:=of_decide_eq_true q1;exact (qSW hk (by rintro⟨h,_,_⟩;rw[gDE hk] at h;omega)).symm
 ·have hka:k=o.length:=by omega
  refine kD (qCY (by omega)) (qC (qC ?_));exact (q5U fun j hj=>h4 j (by omega)).symm
def q8N (ti o:List Int):Int:=if o.length≠ti.length then 2 else cpm o
theorem h76 {ti fi o:List Int}{se:List (List Int)}(hs:Sb ti fi se)(hl:o.length<=256):H26 ((ti,fi,se),o)=some (if qDD ti fi se≠0 then qDD ti fi se else q8N ti o):=by
 refine OkT.eq ?_;show OkT (G26 (ti,fi,se) o) _;unfold G26 q8N;dsimp only;refine zO (h24 hs) (zO (h59 _ _) (zO (zEX hl) (zO (h58 _ (by simp)) (qC ?_))));by_cases h0:qDD ti fi se=0
 ·rw[if_neg (fun q=>q h0),h0,qYB];by_cases h:o.length=ti.length
  ·rw[if_neg (by omega),show ((o.length:Int) != (ti.length:Int))=false by simp[h]];show fnz (0::[cpm o])=_;rw[qYB];unfold fnz;by_cases hc:cpm o=0
   ·rw[hc];rfl
   ·rw[bne_iff_ne.2 hc];rfl
  ·rw[if_pos h,show ((o.length:Int) != (ti.length:Int))=true by simp;omega];exact q03 (by decide)
 ·rw[if_pos h0];exact q03 h0
theorem h25 {ti fi o:List Int}{se:List (List Int)}(hs:Sb ti fi se)(hb:qDD ti fi se=0)(ho:o.length=ti.length)(hp:Pm o):H8 ((ti,fi,se),o)=some (tm ti fi se o,0):=by
 have v:=qSJ hb;have hn:=v.n2;refine OkT.eq ?_;show OkT (G8 (ti,fi,se) o) _;unfold G8;dsimp only;refine zO (h76 hs (by omega)) ?_
 have e:(if qDD ti fi se≠0 then qDD ti fi se else q8N ti o)=0:=by
  rw[if_neg (fun q=>q hb)];unfold q8N;rw[if_neg (fun q=>q ho),q5U hp]
 rw[e];exact kD rfl (zO (h77 v (by rw[<-ho];exact hp.inR) (by omega)) (qC rfl))
end Go.Proofs.YtpnecffgnjijjaaGreatDoor
