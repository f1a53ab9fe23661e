/- Plain laws of chapter 9: Improve, by the program and by the reference. Conditions: none. -/
import Derived.Test.YtpnecffgnjijjaaGreatDoorSU4
import Derived.Test.YtpnecffgnjijjaaGreatDoorMA2
set_option linter.all false
set_option maxRecDepth 10000
set_option maxHeartbeats 100000000
namespace Go.Proofs.YtpnecffgnjijjaaGreatDoor
open Go Go.Idl Go.Sv Go.Proofs
section
variable {ti fi:List Int}{se:List (List Int)}
theorem zCU {o:List Int}{i k:Nat}(hi:i < o.length)(hk:k < o.length):(o.set i o[k]).set k o[i]=sw o i k:=by
 unfold sw;rw[gDE hi,gDE hk]
theorem q9K {o:List Int}{i k:Nat}(hp:Pm o)(hl:o.length=ti.length)(hi:i < o.length)(hk:k < o.length):InR (sw o i k) ti.length:=by
 have:=(qZ5 hp hi hk).inR;rw[uD,hl] at this;exact this
def c3 (a b:Int):Int:=if a < b then -1 else if b < a then 1 else 0
theorem zE5 (a b:Int):H64 (a,b)=some (c3 a b):=by
 refine OkT.eq ?_;show OkT (G64 a b) _;unfold G64 c3;refine kD (by simp) (kD (by simp) (yV (fun c=>qC (by rw[if_pos (of_decide_eq_true c)])) fun c=>yV (fun d=>qC ?_) fun d=>qC ?_))
 ·rw[if_neg (of_decide_eq_false c),if_pos (of_decide_eq_true d)]
 ·rw[if_neg (of_decide_eq_false c),if_neg (of_decide_eq_false d)]
theorem h78 (i k a b:Nat):∃ c,H29 ([(i:Int),(k:Int)],[(a:Int),(b:Int)])=some c∧(c < 0 ↔ lt2 i k a b):=by
 suffices h:OkT (G29 [(i:Int),(k:Int)] [(a:Int),(b:Int)]) fun c=>c < 0 ↔ lt2 i k a b by
  obtain⟨c,h1,h2⟩:=h;exact⟨c,h1,h2⟩
 unfold G29
 have hc:∀ x y:Nat,x≠y->∀ {T:Type} {K1 K2:zE9 T} {Q:T->Prop},OkT K1 Q->OkT (zE9.ite (c3 (x:Int) (y:Int) != 0) K1 K2) Q:=fun x y h T K1 K2 Q hk=>by
  refine xV (bne_iff_ne.2 ?_) hk;unfold c3;split
  ·decide
  ·rw[if_pos (by omega)];decide
 have hs:∀ j:Nat,j < 2->OkT (zE9.ite (decide ((j:Int) < (([(i:Int),(k:Int)]).length:Int))) (zE9.bind (idx [(i:Int),(k:Int)].length (j:Int)) fun (x3:Nat)=>zE9.bind [(i:Int),(k:Int)][x3]? fun (x4:Int)=>zE9.ite (decide ((([(a:Int),(b:Int)]).length:Int)<=(j:Int))) (zE9.ret (Sum.inr (Sum.inr (Sum.inl 1)))) (zE9.bind (idx [(a:Int),(b:Int)].length (j:Int)) fun (x5:Nat)=>zE9.bind [(a:Int),(b:Int)][x5]? fun (x6:Int)=>zE9.bind (H64 (x4,x6)) fun (x7:Int)=>zE9.ite (x7 != 0) (zE9.ret (Sum.inr (Sum.inr (Sum.inl x7)))) (zE9.ret (Sum.inl (IntKind.i64.wrap ((j:Int)+1)))))) (zE9.ret (Sum.inr (Sum.inl (j:Int)))):zE9 (Int⊕Int⊕Int⊕Nat×Int)) fun o=>([(i:Int),(k:Int)].getD j 0≠[(a:Int),(b:Int)].getD j 0∧o=.inr (.inr (.inl (c3 ([(i:Int),(k:Int)].getD j 0) ([(a:Int),(b:Int)].getD j 0)))))∨(¬ [(i:Int),(k:Int)].getD j 0≠[(a:Int),(b:Int)].getD j 0∧o=.inl ((j+1:Nat):Int)):=by
  intro j hj;have h1:j < [(i:Int),(k:Int)].length:=hj;have h2:j < [(a:Int),(b:Int)].length:=hj;refine xV (qAG (by show (j:Int) < 2;omega)) (zH j rfl h1 (zB h1 (kD (decide_eq_false (by show ¬ (2:Int)<=(j:Int);omega)) (zH j rfl h2 (zB h2 (zO (zE5 _ _) ?_))))));rw[gDE h1,gDE h2];refine yV (fun c=>qC (.inl ⟨fun e=>?_,rfl⟩)) fun c=>qC (.inr ⟨fun e=>?_,?_⟩)
  ·rw[e] at c;unfold c3 at c;simp at c
  ·rw[bne_eq_false_iff_eq] at c;unfold c3 at c;split at c
   ·cases c
   ·split at c
    ·cases c
    ·exact e (by omega)
  ·rw[jC (by omega)]
 refine uO 2 (fun j=>[(i:Int),(k:Int)].getD j 0≠[(a:Int),(b:Int)].getD j 0) (fun j=>.inr (.inl (c3 ([(i:Int),(k:Int)].getD j 0) ([(a:Int),(b:Int)].getD j 0)))) (.inl ((2:Nat):Int)) hs ?_ ?_ ?_
 ·exact kD rfl (qC rfl)
 ·intro j hj hp hz;refine qC ?_;have hj:j=0∨j=1:=by omega
  rcases hj with rfl | rfl
  ·have hp:(i:Int)≠(a:Int):=hp;show c3 (i:Int) (a:Int) < 0 ↔ _;unfold c3 lt2;split
   ·constructor
    ·intro _;exact .inl (by omega)
    ·intro _;decide
   ·rw[if_pos (by omega)];constructor
    ·intro h;cases h
    ·intro h;omega
  ·have hp:(k:Int)≠(b:Int):=hp;have h0:(i:Int)=(a:Int):=Decidable.not_not.1 (hz 0 (by omega));show c3 (k:Int) (b:Int) < 0 ↔ _;unfold c3 lt2;split
   ·constructor
    ·intro _;exact .inr ⟨by omega,by omega⟩
    ·intro _;decide
   ·rw[if_pos (by omega)];constructor
    ·intro h;cases h
    ·intro h;omega
 ·intro hn;have h0:(i:Int)=(a:Int):=Decidable.not_not.1 (hn 0 (by omega));have h1:(k:Int)=(b:Int):=Decidable.not_not.1 (hn 1 (by omega));refine kD rfl (qC ?_);unfold lt2;constructor
  ·intro h;cases h
  ·intro h;omega
theorem h27 {r:List Int}{o:List Int}(hs:Sb ti fi se)(hb:qDD ti fi se=0)(hl:o.length=ti.length)(hp:Pm o)(hi:Imp ti fi se o r):H12 ((ti,fi,se),o)=some (r,0):=by
 have v:=qSJ hb;have hn:=v.n2;have hn1:=v.n1
 have he:(if qDD ti fi se≠0 then qDD ti fi se else q8N ti o)=0:=by
  rw[if_neg (fun q=>q hb)];unfold q8N;rw[if_neg (fun q=>q hl),q5U hp]
 refine OkT.eq ?_;show OkT (G12 (ti,fi,se) o) _;unfold G12;dsimp only;refine zO (h76 hs (by omega)) ?_;rw[he];refine kD rfl ?_;refine jU (fun t=>t=o) (kD (by cases o with | nil=>simp at hl;omega | cons x l=>rfl) (kD (by cases o with | nil=>simp at hl;omega | cons x l=>rfl) (xV (zNL (by omega)) (qC ⟨_,rfl,rfl⟩)))) ?_;rintro t rfl;refine qXW (fun s=>Imp ti fi se s r∧Pm s∧s.length=ti.length) (fun s=>(tm ti fi se s).toNat) ⟨hi,hp,hl⟩ ?_;rintro s ⟨g1,g2,g3⟩;have hin:InR s ti.length:=by rw[<-g3];exact g2.inR
 refine zO (h77 v hin (by omega)) ?_;refine aM s.length (fun k (t:Int×Nat×Nat)=>((k:Int),t.1,s,[(t.2.1:Int),(t.2.2:Int)])) (fun k t=>Inv (fsw ti fi se s) (tm ti fi se s) (fun x y=>y < k) t.1 t.2.1 t.2.2) (tm ti fi se s,0,0) rfl (zBA fun i k _ h=>absurd h (zOU _)) ?_ ?_
 ·rintro k ⟨w,a,b⟩ hk q1;have wk:IntKind.i64.wrap ((k:Int)+1)=((k+1:Nat):Int):=jC (by omega);refine xV (qAG (show (k:Int) < (s.length:Int) by omega)) ?_;simp only[wk];refine aM k (fun i (t:Int×Nat×Nat)=>((i:Int),t.1,s,[(t.2.1:Int),(t.2.2:Int)])) (fun i t=>Inv (fsw ti fi se s) (tm ti fi se s) (fun x y=>y < k∨(y=k∧x < i)) t.1 t.2.1 t.2.2) (w,a,b) rfl (oN q1 fun x y _=>by show (y < k∨(y=k∧x < 0)) ↔ y < k;omega) ?_ ?_
  ·rintro i ⟨w,a,b⟩ hi' q1;have q1:Inv (fsw ti fi se s) (tm ti fi se s) (fun x y=>y < k∨(y=k∧x < i)) w a b:=q1;have hi2:i < s.length:=by omega
   have hks:∀ x:Int,k < (s.set i x).length:=fun x=>by rw[zOB];exact hk
   have hL:(sw s i k).length=s.length:=uD s i k;refine xV (qAG (show (i:Int) < (k:Int) by omega)) (zH k rfl hk (zB hk (zH i rfl hi2 (zB hi2 (zH i rfl hi2 (zB hi2 (zH k rfl hk (zB (hks _) ?_))))))));rw[zCU hi2 hk];refine zO (h77 v (q9K g2 g3 hi2 hk) (by rw[hL];omega)) ?_;have hkL:k < (sw s i k).length:=by omega
   have hiL:i < (sw s i k).length:=by omega
   have zMX:∀ x:Int,k < ((sw s i k).set i x).length:=fun x=>by rw[zOB];exact hkL
   refine zH k rfl hk (zB hkL (zH i rfl hi2 (zB hiL (zH i rfl hi2 (zB hiL (zH k rfl hk (zB (zMX _) ?_)))))));rw[zCU hiL hkL,zCX hi' hk];have hS:∀ x y,x < y->((y < k∨(y=k∧x < i+1)) ↔ (y < k∨(y=k∧x < i))∨(x=i∧y=k)):=fun x y _=>by omega
   have wi:IntKind.i64.wrap ((i:Int)+1)=((i+1:Nat):Int):=jC (by omega);have hab:b=0->a=0:=fun h=>by subst h;exact (qWY q1).1
   refine jU (fun t=>t=true ↔ upC (fsw ti fi se s) w a b i k) ?_ ?_
   ·refine yV (fun c=>?_) fun c=>qC ⟨_,rfl,?_⟩
    ·rw[qCZ,zNJ] at c;have c:¬ fsw ti fi se s i k < w:=of_decide_eq_false c;refine yV (fun d=>xV rfl (zO (pqn _ _ _ _) (yV (fun g=>xV rfl ?_) fun g=>qC ⟨_,rfl,?_⟩))) fun d=>qC ⟨_,rfl,?_⟩
     ·have d:fsw ti fi se s i k=w:=by rw[zCQ] at d;exact beq_iff_eq.1 d
      obtain⟨cc,h1,h2⟩:=h78 i k a b;refine zO h1 (qC ⟨_,rfl,?_⟩);rw[decide_eq_true_iff,h2]
      have hb0:b≠0:=fun h=>by
       have:=hab h;subst h this;cases g
      unfold upC;constructor
      ·intro h;exact .inr ⟨d,hb0,h⟩
      ·rintro (h | ⟨_,_,h⟩)
       ·exact absurd h c
       ·exact h
     ·rw[zCQ] at g
      have hb0:b=0:=by
       have g:(!((a:Int)==0&&(b:Int)==0))=false:=g;simp at g;omega
      unfold upC;constructor
      ·intro h;cases h
      ·rintro (h | ⟨_,h,_⟩)
       ·exact absurd h c
       ·exact absurd hb0 h
     ·have d:fsw ti fi se s i k≠w:=by rw[zCQ] at d;exact beq_eq_false_iff_ne.1 d
      unfold upC;constructor
      ·intro h;cases h
      ·rintro (h | ⟨h,_⟩)
       ·exact absurd h c
       ·exact absurd h d
    ·rw[qCZ,zPI] at c;exact⟨fun _=>.inl (of_decide_eq_true c),fun _=>rfl⟩
   ·intro t ht
    cases t with
    | true=>exact xV rfl (xV rfl (qC ⟨(fsw ti fi se s i k,i,k),by rw[wi];rfl,q9Q q1 hi' hS (ht.1 rfl)⟩))
    | false=>exact kD rfl (qC ⟨(w,a,b),by rw[wi],q9J q1 hi' hS fun h=>by cases ht.2 h⟩)
  ·rintro⟨w,a,b⟩ q1;exact kD (qCY (show ¬ (k:Int) < (k:Int) by omega)) (qC ⟨_,rfl,qC ⟨(w,a,b),rfl,oN q1 fun x y hxy=>by show y < k+1 ↔ (y < k∨(y=k∧x < k));omega⟩⟩)
 ·rintro⟨w,a,b⟩ q1;have q1:Inv (fsw ti fi se s) (tm ti fi se s) (fun _ k=>k < s.length) w a b:=q1;refine kD (qCY (show ¬ (s.length:Int) < (s.length:Int) by omega)) (qC ⟨_,rfl,xV rfl (zO (pq _ _ _ _) ?_)⟩)
  cases g1 with
  | done hd =>
    have hb0:b=0:=Decidable.not_not.1 fun hb=>by
     obtain⟨h1,h2,h3,h4⟩:=qPX q1 hb;have:=hd a b h1 h2;omega
    subst hb0;have ha0:=(qWY q1).1;subst ha0;exact xV rfl (qC (qC rfl))
  | step hI hb0 hr =>
    obtain⟨rfl,rfl,rfl⟩:=q12 q1 hI;obtain⟨h1,h2,h3,h4⟩:=qPX q1 hb0;have ha:a < s.length:=by omega
    have hbs:∀ x:Int,b < (s.set a x).length:=fun x=>by rw[zOB];exact h2
    have hps:=qZ5 g2 ha h2;have e:w=tm ti fi se (sw s a b):=h3;have hrg:=zA0 v (q9K g2 g3 ha h2) (by rw[uD];omega);refine kD (by show ((a:Int)==0&&(b:Int)==0)=false;simp;omega) (xV rfl (xV rfl ?_));refine zB (l:=[(a:Int),(b:Int)]) (i:=0) (by simp) (xV rfl (xV rfl ?_));refine zB (l:=[(a:Int),(b:Int)]) (i:=1) (by simp) (xV rfl (xV rfl ?_));refine zB (l:=[(a:Int),(b:Int)]) (i:=1) (by simp) (zH b rfl h2 (zB h2 (xV rfl (xV rfl ?_))));refine zB (l:=[(a:Int),(b:Int)]) (i:=0) (by simp) (zH a rfl ha (zB ha (zH a rfl ha (zB ha (zH b rfl h2 (zB (hbs _) ?_))))));rw[zCU ha h2];refine qC ⟨⟨hr,hps,by rw[uD];exact g3⟩,?_⟩;omega
end
end Go.Proofs.YtpnecffgnjijjaaGreatDoor
