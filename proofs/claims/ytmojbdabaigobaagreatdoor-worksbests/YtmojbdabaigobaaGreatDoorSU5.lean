/- Plain laws of chapter 9: Improve, by the program and by the reference. Conditions: none. -/
import Derived.Test.YtmojbdabaigobaaGreatDoorSU4
import Derived.Test.YtmojbdabaigobaaGreatDoorMA2
set_option linter.all false
set_option maxRecDepth 10000
set_option maxHeartbeats 100000000
namespace Go.Proofs.YtmojbdabaigobaaGreatDoor
open Go Go.Idl Go.Sv Go.Proofs
section
variable {ti fi:List Int}{se:List (List Int)}
theorem zB9 {o:List Int}{i k:Nat}(hi:i < o.length)(hk:k < o.length):(o.set i o[k]).set k o[i]=sw o i k:=by
 unfold sw;rw[gDE hi,gDE hk]
theorem q9C {o:List Int}{i k:Nat}(hp:Pm o)(hl:o.length=ti.length)(hi:i < o.length)(hk:k < o.length):InR (sw o i k) ti.length:=by
 have:=(qWM hp hi hk).inR;rw[vB,hl] at this;exact this
def c3 (a b:Int):Int:=if a < b then -1 else if b < a then 1 else 0
theorem zEU (a b:Int):zJI (a,b)=some (c3 a b):=by
 refine OkT.eq ?_;show OkT (zKH a b) _;unfold zKH c3;refine xV (by simp) (xV (by simp) (zT (fun c=>qC (by rw[if_pos (of_decide_eq_true c)])) fun c=>zT (fun d=>qC ?_) fun d=>qC ?_))
 ·rw[if_neg (of_decide_eq_false c),if_pos (of_decide_eq_true d)]
 ·rw[if_neg (of_decide_eq_false c),if_neg (of_decide_eq_false d)]
theorem h78 (i k a b:Nat):∃ c,H78 ([(i:Int),(k:Int)],[(a:Int),(b:Int)])=some c∧(c < 0 ↔ lt2 i k a b):=by
 suffices h:OkT (G78 [(i:Int),(k:Int)] [(a:Int),(b:Int)]) fun c=>c < 0 ↔ lt2 i k a b by
  obtain⟨c,h1,h2⟩:=h;exact⟨c,h1,h2⟩
 unfold G78
 have hc:∀ x y:Nat,x≠y->∀ {T:Type} {K1 K2:zEY T} {Q:T->Prop},OkT K1 Q->OkT (zEY.ite (c3 (x:Int) (y:Int) != 0) K1 K2) Q:=fun x y h T K1 K2 Q hk=>by
  refine yL (bne_iff_ne.2 ?_) hk;unfold c3;split
  ·decide
  ·rw[if_pos (by omega)];decide
 have hs:∀ j:Nat,j < 2->OkT (zEY.ite (decide ((j:Int) < (([(i:Int),(k:Int)]).length:Int))) (zEY.bind (idx [(i:Int),(k:Int)].length (j:Int)) fun (x3:Nat)=>zEY.bind [(i:Int),(k:Int)][x3]? fun (x4:Int)=>zEY.ite (decide ((([(a:Int),(b:Int)]).length:Int)<=(j:Int))) (zEY.ret (Sum.inr (Sum.inr (Sum.inl 1)))) (zEY.bind (idx [(a:Int),(b:Int)].length (j:Int)) fun (x5:Nat)=>zEY.bind [(a:Int),(b:Int)][x5]? fun (x6:Int)=>zEY.bind (zJI (x4,x6)) fun (x7:Int)=>zEY.ite (x7 != 0) (zEY.ret (Sum.inr (Sum.inr (Sum.inl x7)))) (zEY.ret (Sum.inl (IntKind.i64.wrap ((j:Int)+1)))))) (zEY.ret (Sum.inr (Sum.inl (j:Int)))):zEY (Int⊕Int⊕Int⊕Nat×Int)) fun o=>([(i:Int),(k:Int)].getD j 0≠[(a:Int),(b:Int)].getD j 0∧o=.inr (.inr (.inl (c3 ([(i:Int),(k:Int)].getD j 0) ([(a:Int),(b:Int)].getD j 0)))))∨(¬ [(i:Int),(k:Int)].getD j 0≠[(a:Int),(b:Int)].getD j 0∧o=.inl ((j+1:Nat):Int)):=by
  intro j hj;have h1:j < [(i:Int),(k:Int)].length:=hj;have h2:j < [(a:Int),(b:Int)].length:=hj;refine yL (pG (by show (j:Int) < 2;omega)) (qY j rfl h1 (qR h1 (xV (decide_eq_false (by show ¬ (2:Int)<=(j:Int);omega)) (qY j rfl h2 (qR h2 (zF (zEU _ _) ?_))))));rw[gDE h1,gDE h2];refine zT (fun c=>qC (.inl ⟨fun e=>?_,rfl⟩)) fun c=>qC (.inr ⟨fun e=>?_,?_⟩)
  ·rw[e] at c;unfold c3 at c;simp at c
  ·rw[bne_eq_false_iff_eq] at c;unfold c3 at c;split at c
   ·cases c
   ·split at c
    ·cases c
    ·exact e (by omega)
  ·rw[kU (by omega)]
 refine wH 2 (fun j=>[(i:Int),(k:Int)].getD j 0≠[(a:Int),(b:Int)].getD j 0) (fun j=>.inr (.inl (c3 ([(i:Int),(k:Int)].getD j 0) ([(a:Int),(b:Int)].getD j 0)))) (.inl ((2:Nat):Int)) hs ?_ ?_ ?_
 ·exact xV rfl (qC rfl)
 ·intro j hj hp hz;refine qC ?_;have hj:j=0∨j=1:=by omega
  rcases hj with rfl | rfl
  ·have hp:(i:Int)≠(a:Int):=hp;show c3 (i:Int) (a:Int) < 0 ↔ _;unfold c3 lt2;split
   ·constructor
    ·intro _;exact .inl (by omega)
    ·intro _;decide
   ·rw[if_pos (by omega)];constructor
    ·intro h;cases h
    ·intro h;omega
  ·have hp:(k:Int)≠(b:Int):=hp;have h0:(i:Int)=(a:Int):=Decidable.not_not.1 (hz 0 (by omega));show c3 (k:Int) (b:Int) < 0 ↔ _;unfold c3 lt2;split
   ·constructor
    ·intro _;exact .inr ⟨by omega,by omega⟩
    ·intro _;decide
   ·rw[if_pos (by omega)];constructor
    ·intro h;cases h
    ·intro h;omega
 ·intro hn;have h0:(i:Int)=(a:Int):=Decidable.not_not.1 (hn 0 (by omega));have h1:(k:Int)=(b:Int):=Decidable.not_not.1 (hn 1 (by omega));refine xV rfl (qC ?_);unfold lt2;constructor
  ·intro h;cases h
  ·intro h;omega
theorem h27 {r:List Int}{o:List Int}(hs:Sb ti fi se)(hb:qC8 ti fi se=0)(hl:o.length=ti.length)(hp:Pm o)(hi:Imp ti fi se o r):H27 ((ti,fi,se),o)=some (r,0):=by
 have v:=qYS hb;have hn:=v.n2;have hn1:=v.n1
 have he:(if qC8 ti fi se≠0 then qC8 ti fi se else q8S ti o)=0:=by
  rw[if_neg (fun q=>q hb)];unfold q8S;rw[if_neg (fun q=>q hl),qRB hp]
 refine OkT.eq ?_;show OkT (G27 (ti,fi,se) o) _;unfold G27;dsimp only;refine zF (h76 hs (by omega)) ?_;rw[he];refine xV rfl ?_;refine uQ (fun t=>t=o) (xV (by cases o with | nil=>simp at hl;omega | cons x l=>rfl) (xV (by cases o with | nil=>simp at hl;omega | cons x l=>rfl) (yL (zOV (by omega)) (qC ⟨_,rfl,rfl⟩)))) ?_;rintro t rfl;refine qFK (fun s=>Imp ti fi se s r∧Pm s∧s.length=ti.length) (fun s=>(tm ti fi se s).toNat) ⟨hi,hp,hl⟩ ?_;rintro s ⟨g1,g2,g3⟩;have hin:InR s ti.length:=by rw[<-g3];exact g2.inR
 refine zF (h77 v hin (by omega)) ?_;refine aA s.length (fun k (t:Int×Nat×Nat)=>((k:Int),t.1,s,[(t.2.1:Int),(t.2.2:Int)])) (fun k t=>Inv (fsw ti fi se s) (tm ti fi se s) (fun x y=>y < k) t.1 t.2.1 t.2.2) (tm ti fi se s,0,0) rfl (q9G fun i k _ h=>absurd h (zPM _)) ?_ ?_
 ·rintro k ⟨w,a,b⟩ hk q1;have wk:IntKind.i64.wrap ((k:Int)+1)=((k+1:Nat):Int):=kU (by omega);refine yL (pG (show (k:Int) < (s.length:Int) by omega)) ?_;simp only[wk];refine aA k (fun i (t:Int×Nat×Nat)=>((i:Int),t.1,s,[(t.2.1:Int),(t.2.2:Int)])) (fun i t=>Inv (fsw ti fi se s) (tm ti fi se s) (fun x y=>y < k∨(y=k∧x < i)) t.1 t.2.1 t.2.2) (w,a,b) rfl (o5 q1 fun x y _=>by show (y < k∨(y=k∧x < 0)) ↔ y < k;omega) ?_ ?_
  ·rintro i ⟨w,a,b⟩ hi' q1;have q1:Inv (fsw ti fi se s) (tm ti fi se s) (fun x y=>y < k∨(y=k∧x < i)) w a b:=q1;have hi2:i < s.length:=by omega
   have hks:∀ x:Int,k < (s.set i x).length:=fun x=>by rw[zPR];exact hk
   have hL:(sw s i k).length=s.length:=vB s i k;refine yL (pG (show (i:Int) < (k:Int) by omega)) (qY k rfl hk (qR hk (qY i rfl hi2 (qR hi2 (qY i rfl hi2 (qR hi2 (qY k rfl hk (qR (hks _) ?_))))))));rw[zB9 hi2 hk];refine zF (h77 v (q9C g2 g3 hi2 hk) (by rw[hL];omega)) ?_;have hkL:k < (sw s i k).length:=by omega
   have hiL:i < (sw s i k).length:=by omega
   have zOD:∀ x:Int,k < ((sw s i k).set i x).length:=fun x=>by rw[zPR];exact hkL
   refine qY k rfl hk (qR hkL (qY i rfl hi2 (qR hiL (qY i rfl hi2 (qR hiL (qY k rfl hk (qR (zOD _) ?_)))))));rw[zB9 hiL hkL,zCQ hi' hk];have hS:∀ x y,x < y->((y < k∨(y=k∧x < i+1)) ↔ (y < k∨(y=k∧x < i))∨(x=i∧y=k)):=fun x y _=>by omega
   have wi:IntKind.i64.wrap ((i:Int)+1)=((i+1:Nat):Int):=kU (by omega);have hab:b=0->a=0:=fun h=>by subst h;exact (qXO q1).1
   refine uQ (fun t=>t=true ↔ upC (fsw ti fi se s) w a b i k) ?_ ?_
   ·refine zT (fun c=>?_) fun c=>qC ⟨_,rfl,?_⟩
    ·rw[mZ,zO3] at c;have c:¬ fsw ti fi se s i k < w:=of_decide_eq_false c;refine zT (fun d=>yL rfl (zF (pqn _ _ _ _) (zT (fun g=>yL rfl ?_) fun g=>qC ⟨_,rfl,?_⟩))) fun d=>qC ⟨_,rfl,?_⟩
     ·have d:fsw ti fi se s i k=w:=by rw[zBW] at d;exact beq_iff_eq.1 d
      obtain⟨cc,h1,h2⟩:=h78 i k a b;refine zF h1 (qC ⟨_,rfl,?_⟩);rw[decide_eq_true_iff,h2]
      have hb0:b≠0:=fun h=>by
       have:=hab h;subst h this;cases g
      unfold upC;constructor
      ·intro h;exact .inr ⟨d,hb0,h⟩
      ·rintro (h | ⟨_,_,h⟩)
       ·exact absurd h c
       ·exact h
     ·rw[zBW] at g
      have hb0:b=0:=by
       have g:(!((a:Int)==0&&(b:Int)==0))=false:=g;simp at g;omega
      unfold upC;constructor
      ·intro h;cases h
      ·rintro (h | ⟨_,h,_⟩)
       ·exact absurd h c
       ·exact absurd hb0 h
     ·have d:fsw ti fi se s i k≠w:=by rw[zBW] at d;exact beq_eq_false_iff_ne.1 d
      unfold upC;constructor
      ·intro h;cases h
      ·rintro (h | ⟨h,_⟩)
       ·exact absurd h c
       ·exact absurd h d
    ·rw[mZ,zQC] at c;exact⟨fun _=>.inl (of_decide_eq_true c),fun _=>rfl⟩
   ·intro t ht
    cases t with
    | true=>exact yL rfl (yL rfl (qC ⟨(fsw ti fi se s i k,i,k),by rw[wi];rfl,zA3 q1 hi' hS (ht.1 rfl)⟩))
    | false=>exact xV rfl (qC ⟨(w,a,b),by rw[wi],q92 q1 hi' hS fun h=>by cases ht.2 h⟩)
  ·rintro⟨w,a,b⟩ q1;exact xV (sM (show ¬ (k:Int) < (k:Int) by omega)) (qC ⟨_,rfl,qC ⟨(w,a,b),rfl,o5 q1 fun x y hxy=>by show y < k+1 ↔ (y < k∨(y=k∧x < k));omega⟩⟩)
 ·rintro⟨w,a,b⟩ q1;have q1:Inv (fsw ti fi se s) (tm ti fi se s) (fun _ k=>k < s.length) w a b:=q1;refine xV (sM (show ¬ (s.length:Int) < (s.length:Int) by omega)) (qC ⟨_,rfl,yL rfl (zF (pq _ _ _ _) ?_)⟩)
  cases g1 with
  | done hd =>
    have hb0:b=0:=Decidable.not_not.1 fun hb=>by
     obtain⟨h1,h2,h3,h4⟩:=qPL q1 hb;have:=hd a b h1 h2;omega
    subst hb0;have ha0:=(qXO q1).1;subst ha0;exact yL rfl (qC (qC rfl))
  | step hI hb0 hr =>
    obtain⟨rfl,rfl,rfl⟩:=q2H q1 hI;obtain⟨h1,h2,h3,h4⟩:=qPL q1 hb0;have ha:a < s.length:=by omega
    have hbs:∀ x:Int,b < (s.set a x).length:=fun x=>by rw[zPR];exact h2
    have hps:=qWM g2 ha h2;have e:w=tm ti fi se (sw s a b):=h3;have hrg:=q1X v (q9C g2 g3 ha h2) (by rw[vB];omega);refine xV (by show ((a:Int)==0&&(b:Int)==0)=false;simp;omega) (yL rfl (yL rfl ?_));refine qR (l:=[(a:Int),(b:Int)]) (i:=0) (by simp) (yL rfl (yL rfl ?_));refine qR (l:=[(a:Int),(b:Int)]) (i:=1) (by simp) (yL rfl (yL rfl ?_));refine qR (l:=[(a:Int),(b:Int)]) (i:=1) (by simp) (qY b rfl h2 (qR h2 (yL rfl (yL rfl ?_))));refine qR (l:=[(a:Int),(b:Int)]) (i:=0) (by simp) (qY a rfl ha (qR ha (qY a rfl ha (qR ha (qY b rfl h2 (qR (hbs _) ?_))))));rw[zB9 ha h2];refine qC ⟨⟨hr,hps,by rw[vB];exact g3⟩,?_⟩;omega
end
end Go.Proofs.YtmojbdabaigobaaGreatDoor
