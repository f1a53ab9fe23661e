/- Plain laws of chapter 9: sequences are permutations. Conditions: none. -/
import Derived.Test.YtmojbdabaigobaaGreatDoorSU2
set_option linter.all false
set_option maxRecDepth 10000
set_option maxHeartbeats 100000000
namespace Go.Proofs.YtmojbdabaigobaaGreatDoor
open Go Go.Idl Go.Sv Go.Proofs
def okS (o:List Int)(k:Nat):Prop:=0<=o.getD k 0∧o.getD k 0 < o.length∧o.getD k 0 ∉ o.take k
instance (o:List Int) (k:Nat):Decidable (okS o k):=by unfold okS;infer_instance
def Pm (o:List Int):Prop:=∀ k,k < o.length->okS o k
def pmB (o:List Int):Bool:=(List.range o.length).all fun k=>decide (okS o k)
theorem q21 {o:List Int}:pmB o=true ↔ Pm o:=by
 unfold pmB Pm;rw[zOJ];simp
def cpm (o:List Int):Int:=if pmB o=true then 0 else 15
theorem qRB {o:List Int}(h:Pm o):cpm o=0:=if_pos (q21.2 h)
theorem qPQ {o:List Int}{k:Nat}(hk:k < o.length)(h:¬ okS o k):cpm o=15:=if_neg fun q=>h (q21.1 q k hk)
theorem qKE {o:List Int}{v:Int}{k:Nat}(hk:k<=o.length):v∈o.take k ↔ ∃ j,j < k∧o.getD j 0=v:=by
 constructor
 ·intro h;obtain⟨j,hj,e⟩:=zPI.1 h;rw[zPQ] at hj;refine⟨j,by omega,?_⟩;rw[<-e,gDE (by omega)];simp
 ·rintro⟨j,hj,rfl⟩;rw[gDE (by omega)];exact zPI.2 ⟨j,by rw[zPQ];omega,by simp⟩
theorem Pm.inR {o:List Int}(h:Pm o):InR o o.length:=fun j hj=>⟨(h j hj).1,(h j hj).2.1⟩
theorem h44 {o:List Int}(hl:o.length<=256):H44 o=some (cpm o):=by
 refine OkT.eq ?_;show OkT (G44 o) _;unfold G44;refine xV (decide_eq_false (show ¬ (256:Int) < (o.length:Int) by omega)) ?_;refine wH o.length (fun k=>¬ okS o k) (fun k=>.inr (.inl 15)) (.inl (o.length:Int)) ?_ ?_ ?_ ?_
 ·intro k hk;refine yL (pG (show (k:Int) < (o.length:Int) by omega)) (qY k rfl hk (qR hk (zT (fun q1=>qY k rfl hk (qR hk (zT (fun q2=>qC (.inl ⟨?_,rfl⟩)) fun q2=>?_))) fun q1=>qC (.inl ⟨?_,rfl⟩))))
  ·have q2:=of_decide_eq_true q2;rintro⟨_,h,_⟩;rw[gDE hk] at h;omega
  ·rw[mZ,zO3] at q1;have q1:=of_decide_eq_false q1;have q2:=of_decide_eq_false q2;refine wH k (fun j=>o.getD j 0=o.getD k 0) (fun j=>.inr (.inl 15)) (.inl (k:Int)) ?_ ?_ ?_ ?_
   ·intro j hj;have hjo:j < o.length:=by omega
    refine yL (pG (show (j:Int) < (k:Int) by omega)) (qY j rfl hjo (qR hjo (qY k rfl hk (qR hk ?_))));rw[gDE hjo,gDE hk];refine zT (fun q=>qC (.inl ⟨beq_iff_eq.1 q,rfl⟩)) fun q=>qC (.inr ⟨beq_eq_false_iff_ne.1 q,?_⟩)
    rw[kU (show j < 2 ^ 62 by omega)]
   ·exact xV (sM (show ¬ (k:Int) < (k:Int) by omega)) (qC rfl)
   ·intro j hj h1 h2;refine qC (.inl ⟨?_,rfl⟩);rintro⟨_,_,h⟩;exact h ((qKE (by omega)).2 ⟨j,hj,h1⟩)
   ·intro hn;refine qC (.inr ⟨fun h=>h ⟨?_,?_,?_⟩,?_⟩)
    ·rw[gDE hk];omega
    ·rw[gDE hk];omega
    ·intro hm;obtain⟨j,hj,e⟩:=(qKE (by omega)).1 hm;exact hn j hj e
    ·rw[kU (show k < 2 ^ 62 by omega)]
  ·rw[mZ,zQC] at q1;have q1:=of_decide_eq_true q1;rintro⟨h,_,_⟩;rw[gDE hk] at h;omega
 ·exact xV (sM (show ¬ (o.length:Int) < (o.length:Int) by omega)) (qC rfl)
 ·intro k hk hp _;exact qC (qPQ hk hp).symm
 ·intro hn;exact qC (qRB fun k hk=>Decidable.not_not.1 (hn k hk)).symm
def sn (l:List Int):List (Int×Value):=l.map fun x=>(x,.bool true)
theorem q9N {l:List Int}{v:Int}(h:v ∉ l):qIG v (sn l)=none:=by
 induction l with
 | nil=>rfl
 | cons x l ih =>
   rw[zO1,not_or] at h;show cond (decide (x=v)) (some 0) ((qIG v (sn l)).map (·+1))=none;rw[decide_eq_false (fun q=>h.1 q.symm),ih h.2];rfl
theorem zA2 {l:List Int}{v:Int}(h:v∈l):∃ i,qIG v (sn l)=some i∧(sn l)[i]?=some (v,.bool true):=by
 cases hp:qIG v (sn l) with
 | none =>
   induction l with
   | nil=>cases h
   | cons x l ih =>
     have hp:cond (decide (x=v)) (some 0) ((qIG v (sn l)).map (·+1))=none:=hp;by_cases q:x=v
     ·rw[decide_eq_true q] at hp;cases hp
     ·rw[decide_eq_false q] at hp;rcases zO1.1 h with e | e
      ·exact absurd e.symm q
      ·obtain⟨i,h1,_⟩:=ih e (Option.map_eq_none_iff.1 hp);cases h1
 | some i =>
   obtain⟨w,hw⟩:=qIT hp;refine⟨i,rfl,?_⟩;have hw2:=hw;unfold sn at hw;rw[zOX] at hw;obtain⟨x,_,e⟩:=zOR.1 hw;rw[hw2,<- (Prod.mk.inj e).2]
theorem q4L {o:List Int}{k:Nat}(hk:k < o.length):o.take (k+1)=o.take k++[o[k]]:=by
 rw[List.take_add_one,zOL hk];rfl
theorem zER {o:List Int}(hl:o.length<=256):zKG o=some (cpm o):=by
 refine OkT.eq ?_;show OkT (zKF o) _;unfold zKF;refine xV (decide_eq_false (show ¬ (256:Int) < (o.length:Int) by omega)) ?_;refine qFK (fun s=>∃ k:Nat,s.1=(k:Int)∧k<=o.length∧s.2=eM (sn (o.take k))∧∀ j,j < k->okS o j) (fun s=>o.length - s.1.toNat) ⟨0,rfl,zQD _,rfl,fun j h=>by omega⟩ ?_;rintro⟨i,es⟩ ⟨k,h1,h2,h3,h4⟩;obtain rfl:i=(k:Int):=h1;have h3:es=eM (sn (o.take k)):=h3;subst h3;by_cases hk:k < o.length
 ·refine yL (pG (show (k:Int) < (o.length:Int) by omega)) (qY k rfl hk (qR hk (zT (fun q1=>zT (fun q2=>?_) fun q2=>qC (qC ?_)) fun q1=>qC (qC ?_))))
  ·rw[mZ,zO3] at q1 q2;have q1:=of_decide_eq_false q1;have q2:¬ (o.length:Int)<=o[k]:=of_decide_eq_false q2;by_cases hm:o[k]∈o.take k
   ·obtain⟨p,hp1,hp2⟩:=zA2 hm;refine zF (show q5M Tryz.prog 3 (.int .i64 o[k]) (eM (sn (o.take k)))=some true by rw[q3J,hp1];rfl) (yL rfl (zF (show q7S Tryz.prog 3 .bool (.int .i64 o[k]) (eM (sn (o.take k)))=some true by rw[zAM hp1 hp2];rfl) (yL rfl (qC (qC ?_)))));exact (qPQ hk (by rintro⟨_,_,h⟩;rw[gDE hk] at h;exact h hm)).symm
   ·refine zF (show q5M Tryz.prog 3 (.int .i64 o[k]) (eM (sn (o.take k)))=some false by rw[q3J,q9N hm];rfl) (xV rfl (zF (q57 _ (q9N hm)) (qC ⟨⟨k+1,kU (by omega),hk,?_,?_⟩,?_⟩)))
    ·show eM (sn (o.take k)++[(o[k],.bool true)])=_;rw[q4L hk];unfold sn;rw[zPS];rfl
    ·intro j hj;by_cases e:j=k
     ·subst e;unfold okS;rw[gDE hk];exact⟨by omega,by omega,hm⟩
     ·exact h4 j (by omega)
    ·simp only[kU (show k < 2 ^ 62 by omega)];omega
  ·rw[mZ,zQC] at q2;have q2:(o.length:Int)<=o[k]:=of_decide_eq_true q2;exact (qPQ hk (by rintro⟨_,h,_⟩;rw[gDE hk] at h;omega)).symm
  ·rw[mZ,zQC] at q1;have q1:=of_decide_eq_true q1;exact (qPQ hk (by rintro⟨h,_,_⟩;rw[gDE hk] at h;omega)).symm
 ·have hka:k=o.length:=by omega
  refine xV (sM (by omega)) (qC (qC ?_));exact (qRB fun j hj=>h4 j (by omega)).symm
def q8S (ti o:List Int):Int:=if o.length≠ti.length then 2 else cpm o
theorem h76 {ti fi o:List Int}{se:List (List Int)}(hs:Sb ti fi se)(hl:o.length<=256):H76 ((ti,fi,se),o)=some (if qC8 ti fi se≠0 then qC8 ti fi se else q8S ti o):=by
 refine OkT.eq ?_;show OkT (G76 (ti,fi,se) o) _;unfold G76 q8S;dsimp only;refine zF (h24 hs) (zF (h59 _ _) (zF (zER hl) (zF (h58 _ (by simp)) (qC ?_))));by_cases h0:qC8 ti fi se=0
 ·rw[if_neg (fun q=>q h0),h0,qT4];by_cases h:o.length=ti.length
  ·rw[if_neg (by omega),show ((o.length:Int) != (ti.length:Int))=false by simp[h]];show fnz (0::[cpm o])=_;rw[qT4];unfold fnz;by_cases hc:cpm o=0
   ·rw[hc];rfl
   ·rw[bne_iff_ne.2 hc];rfl
  ·rw[if_pos h,show ((o.length:Int) != (ti.length:Int))=true by simp;omega];exact q03 (by decide)
 ·rw[if_pos h0];exact q03 h0
theorem h25 {ti fi o:List Int}{se:List (List Int)}(hs:Sb ti fi se)(hb:qC8 ti fi se=0)(ho:o.length=ti.length)(hp:Pm o):H25 ((ti,fi,se),o)=some (tm ti fi se o,0):=by
 have v:=qYS hb;have hn:=v.n2;refine OkT.eq ?_;show OkT (G25 (ti,fi,se) o) _;unfold G25;dsimp only;refine zF (h76 hs (by omega)) ?_
 have e:(if qC8 ti fi se≠0 then qC8 ti fi se else q8S ti o)=0:=by
  rw[if_neg (fun q=>q hb)];unfold q8S;rw[if_neg (fun q=>q ho),qRB hp]
 rw[e];exact xV rfl (zF (h77 v (by rw[<-ho];exact hp.inR) (by omega)) (qC rfl))
end Go.Proofs.YtmojbdabaigobaaGreatDoor
