/- Plain laws of chapter 9: sequences are permutations. Conditions: none. -/
import Derived.Test.YtkmfigmiehpcpaaGreatDoorSU2
set_option linter.all false
set_option maxRecDepth 10000
set_option maxHeartbeats 100000000
namespace Go.Proofs.YtkmfigmiehpcpaaGreatDoor
open Go Go.Idl Go.Sv Go.Proofs
def okS (o:List Int)(k:Nat):Prop:=0<=o.getD k 0∧o.getD k 0 < o.length∧o.getD k 0 ∉ o.take k
instance (o:List Int) (k:Nat):Decidable (okS o k):=by unfold okS;infer_instance
def Pm (o:List Int):Prop:=∀ k,k < o.length->okS o k
def pmB (o:List Int):Bool:=(List.range o.length).all fun k=>decide (okS o k)
theorem qWG {o:List Int}:pmB o=true ↔ Pm o:=by
 unfold pmB Pm;rw[zNW];simp
def cpm (o:List Int):Int:=if pmB o=true then 0 else 15
theorem qZK {o:List Int}(h:Pm o):cpm o=0:=if_pos (qWG.2 h)
theorem qO2 {o:List Int}{k:Nat}(hk:k < o.length)(h:¬ okS o k):cpm o=15:=if_neg fun q=>h (qWG.1 q k hk)
theorem zBY {o:List Int}(h:cpm o=0):Pm o:=by
 unfold cpm at h;split at h
 ·rename_i q;exact qWG.1 q
 ·cases h
theorem qQO {o:List Int}{v:Int}{k:Nat}(hk:k<=o.length):v∈o.take k ↔ ∃ j,j < k∧o.getD j 0=v:=by
 constructor
 ·intro h;obtain⟨j,hj,e⟩:=zPC.1 h;rw[zO4] at hj;refine⟨j,by omega,?_⟩;rw[<-e,gDE (by omega)];simp
 ·rintro⟨j,hj,rfl⟩;rw[gDE (by omega)];exact zPC.2 ⟨j,by rw[zO4];omega,by simp⟩
theorem Pm.inR {o:List Int}(h:Pm o):InR o o.length:=fun j hj=>⟨(h j hj).1,(h j hj).2.1⟩
theorem h44 {o:List Int}(hl:o.length<=256):H44 o=some (cpm o):=by
 refine OkT.eq ?_;show OkT (G44 o) _;unfold G44;refine yH (decide_eq_false (show ¬ (256:Int) < (o.length:Int) by omega)) ?_;refine vM o.length (fun k=>¬ okS o k) (fun k=>.inr (.inl 15)) (.inl (o.length:Int)) ?_ ?_ ?_ ?_
 ·intro k hk;refine zS (dW (show (k:Int) < (o.length:Int) by omega)) (qQ k rfl hk (qP hk (zU (fun q1=>qQ k rfl hk (qP hk (zU (fun q2=>qA (.inl ⟨?_,rfl⟩)) fun q2=>?_))) fun q1=>qA (.inl ⟨?_,rfl⟩))))
  ·have q2:=of_decide_eq_true q2;rintro⟨_,h,_⟩;rw[gDE hk] at h;omega
  ·rw[qF4,zOE] at q1;have q1:=of_decide_eq_false q1;have q2:=of_decide_eq_false q2;refine vM k (fun j=>o.getD j 0=o.getD k 0) (fun j=>.inr (.inl 15)) (.inl (k:Int)) ?_ ?_ ?_ ?_
   ·intro j hj;have hjo:j < o.length:=by omega
    refine zS (dW (show (j:Int) < (k:Int) by omega)) (qQ j rfl hjo (qP hjo (qQ k rfl hk (qP hk ?_))));rw[gDE hjo,gDE hk];refine zU (fun q=>qA (.inl ⟨beq_iff_eq.1 q,rfl⟩)) fun q=>qA (.inr ⟨beq_eq_false_iff_ne.1 q,?_⟩)
    rw[xO (show j < 2 ^ 62 by omega)]
   ·exact yH (mX (show ¬ (k:Int) < (k:Int) by omega)) (qA rfl)
   ·intro j hj h1 h2;refine qA (.inl ⟨?_,rfl⟩);rintro⟨_,_,h⟩;exact h ((qQO (by omega)).2 ⟨j,hj,h1⟩)
   ·intro hn;refine qA (.inr ⟨fun h=>h ⟨?_,?_,?_⟩,?_⟩)
    ·rw[gDE hk];omega
    ·rw[gDE hk];omega
    ·intro hm;obtain⟨j,hj,e⟩:=(qQO (by omega)).1 hm;exact hn j hj e
    ·rw[xO (show k < 2 ^ 62 by omega)]
  ·rw[qF4,zPY] at q1;have q1:=of_decide_eq_true q1;rintro⟨h,_,_⟩;rw[gDE hk] at h;omega
 ·exact yH (mX (show ¬ (o.length:Int) < (o.length:Int) by omega)) (qA rfl)
 ·intro k hk hp _;exact qA (qO2 hk hp).symm
 ·intro hn;exact qA (qZK fun k hk=>Decidable.not_not.1 (hn k hk)).symm
def sn (l:List Int):List (Int×Value):=l.map fun x=>(x,.bool true)
theorem q77 {l:List Int}{v:Int}(h:v ∉ l):qIM v (sn l)=none:=by
 induction l with
 | nil=>rfl
 | cons x l ih =>
   rw[zOF,not_or] at h;show cond (decide (x=v)) (some 0) ((qIM v (sn l)).map (·+1))=none;rw[decide_eq_false (fun q=>h.1 q.symm),ih h.2];rfl
theorem q81 {l:List Int}{v:Int}(h:v∈l):∃ i,qIM v (sn l)=some i∧(sn l)[i]?=some (v,.bool true):=by
 cases hp:qIM v (sn l) with
 | none =>
   induction l with
   | nil=>cases h
   | cons x l ih =>
     have hp:cond (decide (x=v)) (some 0) ((qIM v (sn l)).map (·+1))=none:=hp;by_cases q:x=v
     ·rw[decide_eq_true q] at hp;cases hp
     ·rw[decide_eq_false q] at hp;rcases zOF.1 h with e | e
      ·exact absurd e.symm q
      ·obtain⟨i,h1,_⟩:=ih e (Option.map_eq_none_iff.1 hp);cases h1
 | some i =>
   obtain⟨w,hw⟩:=qJ3 hp;refine⟨i,rfl,?_⟩;have hw2:=hw;unfold sn at hw;rw[zN9] at hw;obtain⟨x,_,e⟩:=zN4.1 hw;rw[hw2,<- (Prod.mk.inj e).2]
theorem zAK {o:List Int}{k:Nat}(hk:k < o.length):o.take (k+1)=o.take k++[o[k]]:=by
 rw[zSB,zNX hk];rfl
theorem zD5 {o:List Int}(hl:o.length<=256):zJV o=some (cpm o):=by
 refine OkT.eq ?_;show OkT (zJU o) _;unfold zJU;refine yH (decide_eq_false (show ¬ (256:Int) < (o.length:Int) by omega)) ?_;refine qMA (fun s=>∃ k:Nat,s.1=(k:Int)∧k<=o.length∧s.2=eM (sn (o.take k))∧∀ j,j < k->okS o j) (fun s=>o.length - s.1.toNat) ⟨0,rfl,zPO _,rfl,fun j h=>by omega⟩ ?_;rintro⟨i,es⟩ ⟨k,h1,h2,h3,h4⟩;obtain rfl:i=(k:Int):=h1;have h3:es=eM (sn (o.take k)):=h3;subst h3;by_cases hk:k < o.length
 ·refine zS (dW (show (k:Int) < (o.length:Int) by omega)) (qQ k rfl hk (qP hk (zU (fun q1=>zU (fun q2=>?_) fun q2=>qA (qA ?_)) fun q1=>qA (qA ?_))))
  ·rw[qF4,zOE] at q1 q2;have q1:=of_decide_eq_false q1;have q2:¬ (o.length:Int)<=o[k]:=of_decide_eq_false q2;by_cases hm:o[k]∈o.take k
   ·obtain⟨p,hp1,hp2⟩:=q81 hm;refine qN (show q4I Tryz.prog 3 (.int .i64 o[k]) (eM (sn (o.take k)))=some true by rw[q2W,hp1];rfl) (zS rfl (qN (show q6N Tryz.prog 3 .bool (.int .i64 o[k]) (eM (sn (o.take k)))=some true by rw[zAP hp1 hp2];rfl) (zS rfl (qA (qA ?_)))));exact (qO2 hk (by rintro⟨_,_,h⟩;rw[gDE hk] at h;exact h hm)).symm
   ·refine qN (show q4I Tryz.prog 3 (.int .i64 o[k]) (eM (sn (o.take k)))=some false by rw[q2W,q77 hm];rfl) (yH rfl (qN (q5E _ (q77 hm)) (qA ⟨⟨k+1,xO (by omega),hk,?_,?_⟩,?_⟩)))
    ·show eM (sn (o.take k)++[(o[k],.bool true)])=_;rw[zAK hk];unfold sn;rw[zO0];rfl
    ·intro j hj;by_cases e:j=k
     ·subst e;unfold okS;rw[gDE hk];exact⟨by omega,by omega,hm⟩
     ·exact h4 j (by omega)
    ·simp only[xO (show k < 2 ^ 62 by omega)];omega
  ·rw[qF4,zPY] at q2;have q2:(o.length:Int)<=o[k]:=of_decide_eq_true q2;exact (qO2 hk (by rintro⟨_,h,_⟩;rw[gDE hk] at h;omega)).symm
  ·rw[qF4,zPY] at q1;have q1:=of_decide_eq_true q1;exact (qO2 hk (by rintro⟨h,_,_⟩;rw[gDE hk] at h;omega)).symm
 ·have hka:k=o.length:=by omega
  refine yH (mX (by omega)) (qA (qA ?_));exact (qZK fun j hj=>h4 j (by omega)).symm
def qIR (ti o:List Int):Int:=if o.length≠ti.length then 2 else cpm o
theorem h28 {ti fi o:List Int}{se:List (List Int)}(hl:o.length<=256):H28 ((ti,fi,se),o)=some (qIR ti o):=by
 refine OkT.eq ?_;show OkT (G28 (ti,fi,se) o) _;unfold G28 qIR;by_cases h:o.length=ti.length
 ·rw[if_neg (by omega)];exact yH (by simp[h]) (qN (h44 hl) (qA rfl))
 ·rw[if_pos h];exact zS (by simp;omega) (qA rfl)
theorem h76 {ti fi o:List Int}{se:List (List Int)}(hs:Sb ti fi se)(hl:o.length<=256):H76 ((ti,fi,se),o)=some (if aG ti fi se≠0 then aG ti fi se else qIR ti o):=by
 refine OkT.eq ?_;show OkT (G76 (ti,fi,se) o) _;unfold G76 qIR;dsimp only;refine qN (h24 hs) (qN (h59 _ _) (qN (zD5 hl) (qN (h58 _ (by simp)) (qA ?_))));by_cases h0:aG ti fi se=0
 ·rw[if_neg (fun q=>q h0),h0,qSC];by_cases h:o.length=ti.length
  ·rw[if_neg (by omega),show ((o.length:Int) != (ti.length:Int))=false by simp[h]];show fnz (0::[cpm o])=_;rw[qSC];unfold fnz;by_cases hc:cpm o=0
   ·rw[hc];rfl
   ·rw[bne_iff_ne.2 hc];rfl
  ·rw[if_pos h,show ((o.length:Int) != (ti.length:Int))=true by simp;omega];exact qUZ (by decide)
 ·rw[if_pos h0];exact qUZ h0
theorem zDN {ti fi o:List Int}{se:List (List Int)}{e:Int}(hs:Sb ti fi se)(hl:o.length<=256)(h:(if aG ti fi se≠0 then aG ti fi se else qIR ti o)=e)(he:e≠0):H25 ((ti,fi,se),o)=some (0,e):=by
 refine OkT.eq ?_;show OkT (G25 (ti,fi,se) o) _;unfold G25;dsimp only;refine qN (h76 hs hl) ?_;rw[h];exact zS (bne_iff_ne.2 he) (qA rfl)
theorem h25 {ti fi o:List Int}{se:List (List Int)}(hs:Sb ti fi se)(hb:aG ti fi se=0)(ho:o.length=ti.length)(hp:Pm o):H25 ((ti,fi,se),o)=some (tm ti fi se o,0):=by
 have v:=qVU hb;have hn:=v.n2;refine OkT.eq ?_;show OkT (G25 (ti,fi,se) o) _;unfold G25;dsimp only;refine qN (h76 hs (by omega)) ?_
 have e:(if aG ti fi se≠0 then aG ti fi se else qIR ti o)=0:=by
  rw[if_neg (fun q=>q hb)];unfold qIR;rw[if_neg (fun q=>q ho),qZK hp]
 rw[e];exact yH rfl (qN (h77 v (by rw[<-ho];exact hp.inR) (by omega)) (qA rfl))
end Go.Proofs.YtkmfigmiehpcpaaGreatDoor
