/- Plain laws of chapter 9: Improve, by the program and by the reference. Conditions: none. -/
import Derived.Test.YtkmfigmiehpcpaaGreatDoorSU4
import Derived.Test.YtkmfigmiehpcpaaGreatDoorMA2
set_option linter.all false
set_option maxRecDepth 10000
set_option maxHeartbeats 100000000
namespace Go.Proofs.YtkmfigmiehpcpaaGreatDoor
open Go Go.Idl Go.Sv Go.Proofs
section
variable {ti fi:List Int}{se:List (List Int)}
theorem zBC {o:List Int}{i k:Nat}(hi:i < o.length)(hk:k < o.length):(o.set i o[k]).set k o[i]=sw o i k:=by
 unfold sw;rw[gDE hi,gDE hk]
theorem qZL {o:List Int}{i k:Nat}(hp:Pm o)(hl:o.length=ti.length)(hi:i < o.length)(hk:k < o.length):InR (sw o i k) ti.length:=by
 have:=(q02 hp hi hk).inR;rw[vG,hl] at this;exact this
theorem zD8 (v:Vs ti fi se){r:List Int}:∀ {o:List Int},Imp ti fi se o r->Pm o->o.length=ti.length->H31 ((ti,fi,se),o)=some r:=by
 intro o hi hp hl;have hn:=v.n2;have hn1:=v.n1;refine OkT.eq ?_;show OkT (G31 (ti,fi,se) o) _;unfold G31;dsimp only;refine yG (fun t=>t=o) (yH (by cases o with | nil=>simp at hl;omega | cons x l=>rfl) (zS (zOA (by omega)) (qA ⟨_,rfl,rfl⟩))) ?_;rintro t rfl;refine qMA (fun s=>Imp ti fi se s r∧Pm s∧s.length=ti.length) (fun s=>(tm ti fi se s).toNat) ⟨hi,hp,hl⟩ ?_;rintro s ⟨g1,g2,g3⟩;have hin:InR s ti.length:=by rw[<-g3];exact g2.inR
 have zLK:=h30 v hin (by omega);refine qN zLK ?_;refine vC s.length (fun i (t:List Int×Int)=>(t.1,t.2,(i:Int))) (fun i t=>∃ a b,Inv (fsw ti fi se s) (tm ti fi se s) (fun x y=>x < i∧y < s.length) t.2 a b∧t.1=if b=0 then s else sw s a b) (s,tm ti fi se s) rfl ⟨0,0,q40 fun i k _ h=>absurd h.1 (zP0 _),rfl⟩ ?_ ?_
 ·rintro i ⟨bs,w⟩ hi' ⟨a,b,q1,q2⟩;have q2:bs=if b=0 then s else sw s a b:=q2;have w1:IntKind.i64.wrap ((i:Int)+1)=((i+1:Nat):Int):=xO (by omega);refine zS (dW (show (i:Int) < (s.length:Int) by omega)) ?_;simp only[w1];refine vC (s.length - (i+1)) (fun j (t:List Int×Int)=>(t.1,t.2,((i+1+j:Nat):Int))) (fun j t=>∃ a b,Inv (fsw ti fi se s) (tm ti fi se s) (fun x y=>y < s.length∧(x < i∨(x=i∧y < i+1+j))) t.2 a b∧t.1=if b=0 then s else sw s a b) (bs,w) rfl ⟨a,b,wL q1 fun x y hxy=>by omega,q2⟩ ?_ ?_
  ·rintro j ⟨bs,w⟩ hj ⟨a,b,q1,q2⟩;have q2:bs=if b=0 then s else sw s a b:=q2;have hk:i+1+j < s.length:=by omega
   generalize hkk:i+1+j=k at *;have hks:∀ x:Int,k < (s.set i x).length:=fun x=>by rw[zOY];exact hk
   refine zS (dW (show (k:Int) < (s.length:Int) by omega)) (yH (by cases s with | nil=>simp at hk | cons x l=>rfl) (zS (zOA (by omega)) ?_));simp only[zOR,zR3];refine qQ k rfl hk (qP hk (qQ i rfl hi' (qP hi' (qQ i rfl hi' (qP hi' (qQ k rfl hk (qP (hks _) ?_)))))));rw[zBC hi' hk];refine qN (h30 v (qZL g2 g3 hi' hk) (by rw[vG];omega)) ?_;have wk:IntKind.i64.wrap ((k:Int)+1)=((k+1:Nat):Int):=xO (by omega)
   have hnl:¬ (b≠0∧lt2 i k a b):=by
    rintro⟨hb,hl2⟩;have:=(qEX q1 hb).2.1;unfold lt2 at hl2;omega
   have hS:∀ x y,x < y->((y < s.length∧(x < i∨(x=i∧y < i+1+(j+1)))) ↔ (y < s.length∧(x < i∨(x=i∧y < k)))∨(x=i∧y=k)):=fun x y _=>by omega
   refine zU (fun c=>qA ⟨(sw s i k,fsw ti fi se s i k),?_,i,k,q5Q q1 (by omega) hS (.inl (of_decide_eq_true c)),?_⟩) fun c=>qA ⟨(bs,w),?_,a,b,q7K q1 (by omega) hS ?_,q2⟩
   ·rw[wk,<-hkk];rfl
   ·exact (if_neg (by omega)).symm
   ·rw[wk,<-hkk];rfl
   ·have c:¬ fsw ti fi se s i k < w:=of_decide_eq_false c;rintro (h | ⟨_,h⟩)
    ·exact c h
    ·exact hnl h
  ·rintro⟨bs,w⟩ ⟨a,b,q1,q2⟩;refine yH (mX (show ¬ ((i+1+(s.length - (i+1)):Nat):Int) < (s.length:Int) by omega)) (qA ⟨_,rfl,qA ⟨(bs,w),rfl,a,b,wL q1 fun x y hxy=>by omega,q2⟩⟩)
 ·rintro⟨bs,w⟩ ⟨a,b,q1,q2⟩;have q2:bs=if b=0 then s else sw s a b:=q2;have q1:Inv (fsw ti fi se s) (tm ti fi se s) (fun _ k=>k < s.length) w a b:=wL q1 fun x y hxy=>by omega
  refine yH (mX (show ¬ (s.length:Int) < (s.length:Int) by omega)) (qA ⟨_,rfl,qN zLK ?_⟩)
  cases g1 with
  | done hd =>
    have hb:b=0:=Decidable.not_not.1 fun hb=>by
     obtain⟨h1,h2,h3,h4⟩:=qEX q1 hb;have:=hd a b h1 h2;omega
    subst hb;refine zS (beq_iff_eq.2 (qQN q1).2.1) (qA (qA rfl))
  | step hI hb hr =>
    obtain⟨rfl,rfl,rfl⟩:=qN3 q1 hI;obtain⟨h1,h2,h3,h4⟩:=qEX q1 hb;rw[if_neg hb] at q2;subst q2;have hps:=q02 g2 (show a < s.length by omega) h2;have e:w=tm ti fi se (sw s a b):=h3;have hrg:=q6K v (qZL g2 g3 (show a < s.length by omega) h2) (by rw[vG];omega);refine yH (beq_eq_false_iff_ne.2 (by show w≠_;omega)) (qA ⟨⟨hr,hps,by rw[vG];exact g3⟩,?_⟩);show (tm ti fi se (sw s a b)).toNat < (tm ti fi se s).toNat;omega
def c3 (a b:Int):Int:=if a < b then -1 else if b < a then 1 else 0
theorem zEC (a b:Int):zIX (a,b)=some (c3 a b):=by
 refine OkT.eq ?_;show OkT (zJW a b) _;unfold zJW c3;refine yH (by simp) (yH (by simp) (zU (fun c=>qA (by rw[if_pos (of_decide_eq_true c)])) fun c=>zU (fun d=>qA ?_) fun d=>qA ?_))
 ·rw[if_neg (of_decide_eq_false c),if_pos (of_decide_eq_true d)]
 ·rw[if_neg (of_decide_eq_false c),if_neg (of_decide_eq_false d)]
theorem h78 (i k a b:Nat):∃ c,H78 ([(i:Int),(k:Int)],[(a:Int),(b:Int)])=some c∧(c < 0 ↔ lt2 i k a b):=by
 suffices h:OkT (G78 [(i:Int),(k:Int)] [(a:Int),(b:Int)]) fun c=>c < 0 ↔ lt2 i k a b by
  obtain⟨c,h1,h2⟩:=h;exact⟨c,h1,h2⟩
 unfold G78
 have hc:∀ x y:Nat,x≠y->∀ {T:Type} {K1 K2:zED T} {Q:T->Prop},OkT K1 Q->OkT (zED.ite (c3 (x:Int) (y:Int) != 0) K1 K2) Q:=fun x y h T K1 K2 Q hk=>by
  refine zS (bne_iff_ne.2 ?_) hk;unfold c3;split
  ·decide
  ·rw[if_pos (by omega)];decide
 have hs:∀ j:Nat,j < 2->OkT (zED.ite (decide ((j:Int) < (([(i:Int),(k:Int)]).length:Int))) (zED.bind (idx [(i:Int),(k:Int)].length (j:Int)) fun (x3:Nat)=>zED.bind [(i:Int),(k:Int)][x3]? fun (x4:Int)=>zED.ite (decide ((([(a:Int),(b:Int)]).length:Int)<=(j:Int))) (zED.ret (Sum.inr (Sum.inr (Sum.inl 1)))) (zED.bind (idx [(a:Int),(b:Int)].length (j:Int)) fun (x5:Nat)=>zED.bind [(a:Int),(b:Int)][x5]? fun (x6:Int)=>zED.bind (zIX (x4,x6)) fun (x7:Int)=>zED.ite (x7 != 0) (zED.ret (Sum.inr (Sum.inr (Sum.inl x7)))) (zED.ret (Sum.inl (IntKind.i64.wrap ((j:Int)+1)))))) (zED.ret (Sum.inr (Sum.inl (j:Int)))):zED (Int⊕Int⊕Int⊕Nat×Int)) fun o=>([(i:Int),(k:Int)].getD j 0≠[(a:Int),(b:Int)].getD j 0∧o=.inr (.inr (.inl (c3 ([(i:Int),(k:Int)].getD j 0) ([(a:Int),(b:Int)].getD j 0)))))∨(¬ [(i:Int),(k:Int)].getD j 0≠[(a:Int),(b:Int)].getD j 0∧o=.inl ((j+1:Nat):Int)):=by
  intro j hj;have h1:j < [(i:Int),(k:Int)].length:=hj;have h2:j < [(a:Int),(b:Int)].length:=hj;refine zS (dW (by show (j:Int) < 2;omega)) (qQ j rfl h1 (qP h1 (yH (decide_eq_false (by show ¬ (2:Int)<=(j:Int);omega)) (qQ j rfl h2 (qP h2 (qN (zEC _ _) ?_))))));rw[gDE h1,gDE h2];refine zU (fun c=>qA (.inl ⟨fun e=>?_,rfl⟩)) fun c=>qA (.inr ⟨fun e=>?_,?_⟩)
  ·rw[e] at c;unfold c3 at c;simp at c
  ·rw[bne_eq_false_iff_eq] at c;unfold c3 at c;split at c
   ·cases c
   ·split at c
    ·cases c
    ·exact e (by omega)
  ·rw[xO (by omega)]
 refine vM 2 (fun j=>[(i:Int),(k:Int)].getD j 0≠[(a:Int),(b:Int)].getD j 0) (fun j=>.inr (.inl (c3 ([(i:Int),(k:Int)].getD j 0) ([(a:Int),(b:Int)].getD j 0)))) (.inl ((2:Nat):Int)) hs ?_ ?_ ?_
 ·exact yH rfl (qA rfl)
 ·intro j hj hp hz;refine qA ?_;have hj:j=0∨j=1:=by omega
  rcases hj with rfl | rfl
  ·have hp:(i:Int)≠(a:Int):=hp;show c3 (i:Int) (a:Int) < 0 ↔ _;unfold c3 lt2;split
   ·constructor
    ·intro _;exact .inl (by omega)
    ·intro _;decide
   ·rw[if_pos (by omega)];constructor
    ·intro h;cases h
    ·intro h;omega
  ·have hp:(k:Int)≠(b:Int):=hp;have h0:(i:Int)=(a:Int):=Decidable.not_not.1 (hz 0 (by omega));show c3 (k:Int) (b:Int) < 0 ↔ _;unfold c3 lt2;split
   ·constructor
    ·intro _;exact .inr ⟨by omega,by omega⟩
    ·intro _;decide
   ·rw[if_pos (by omega)];constructor
    ·intro h;cases h
    ·intro h;omega
 ·intro hn;have h0:(i:Int)=(a:Int):=Decidable.not_not.1 (hn 0 (by omega));have h1:(k:Int)=(b:Int):=Decidable.not_not.1 (hn 1 (by omega));refine yH rfl (qA ?_);unfold lt2;constructor
  ·intro h;cases h
  ·intro h;omega
theorem zC7 {o:List Int}{e:Int}(hs:Sb ti fi se)(hl:o.length<=256)(h:(if aG ti fi se≠0 then aG ti fi se else qIR ti o)=e)(he:e≠0):H27 ((ti,fi,se),o)=some ([],e):=by
 refine OkT.eq ?_;show OkT (G27 (ti,fi,se) o) _;unfold G27;dsimp only;refine qN (h76 hs hl) ?_;rw[h];exact zS (bne_iff_ne.2 he) (qA rfl)
theorem h27 {r:List Int}{o:List Int}(hs:Sb ti fi se)(hb:aG ti fi se=0)(hl:o.length=ti.length)(hp:Pm o)(hi:Imp ti fi se o r):H27 ((ti,fi,se),o)=some (r,0):=by
 have v:=qVU hb;have hn:=v.n2;have hn1:=v.n1
 have he:(if aG ti fi se≠0 then aG ti fi se else qIR ti o)=0:=by
  rw[if_neg (fun q=>q hb)];unfold qIR;rw[if_neg (fun q=>q hl),qZK hp]
 refine OkT.eq ?_;show OkT (G27 (ti,fi,se) o) _;unfold G27;dsimp only;refine qN (h76 hs (by omega)) ?_;rw[he];refine yH rfl ?_;refine yG (fun t=>t=o) (yH (by cases o with | nil=>simp at hl;omega | cons x l=>rfl) (yH (by cases o with | nil=>simp at hl;omega | cons x l=>rfl) (zS (zOA (by omega)) (qA ⟨_,rfl,rfl⟩)))) ?_;rintro t rfl;refine qMA (fun s=>Imp ti fi se s r∧Pm s∧s.length=ti.length) (fun s=>(tm ti fi se s).toNat) ⟨hi,hp,hl⟩ ?_;rintro s ⟨g1,g2,g3⟩;have hin:InR s ti.length:=by rw[<-g3];exact g2.inR
 refine qN (h77 v hin (by omega)) ?_;refine vC s.length (fun k (t:Int×Nat×Nat)=>((k:Int),t.1,s,[(t.2.1:Int),(t.2.2:Int)])) (fun k t=>Inv (fsw ti fi se s) (tm ti fi se s) (fun x y=>y < k) t.1 t.2.1 t.2.2) (tm ti fi se s,0,0) rfl (q40 fun i k _ h=>absurd h (zP0 _)) ?_ ?_
 ·rintro k ⟨w,a,b⟩ hk q1;have wk:IntKind.i64.wrap ((k:Int)+1)=((k+1:Nat):Int):=xO (by omega);refine zS (dW (show (k:Int) < (s.length:Int) by omega)) ?_;simp only[wk];refine vC k (fun i (t:Int×Nat×Nat)=>((i:Int),t.1,s,[(t.2.1:Int),(t.2.2:Int)])) (fun i t=>Inv (fsw ti fi se s) (tm ti fi se s) (fun x y=>y < k∨(y=k∧x < i)) t.1 t.2.1 t.2.2) (w,a,b) rfl (wL q1 fun x y _=>by show (y < k∨(y=k∧x < 0)) ↔ y < k;omega) ?_ ?_
  ·rintro i ⟨w,a,b⟩ hi' q1;have q1:Inv (fsw ti fi se s) (tm ti fi se s) (fun x y=>y < k∨(y=k∧x < i)) w a b:=q1;have hi2:i < s.length:=by omega
   have hks:∀ x:Int,k < (s.set i x).length:=fun x=>by rw[zOY];exact hk
   have hL:(sw s i k).length=s.length:=vG s i k;refine zS (dW (show (i:Int) < (k:Int) by omega)) (qQ k rfl hk (qP hk (qQ i rfl hi2 (qP hi2 (qQ i rfl hi2 (qP hi2 (qQ k rfl hk (qP (hks _) ?_))))))));rw[zBC hi2 hk];refine qN (h77 v (qZL g2 g3 hi2 hk) (by rw[hL];omega)) ?_;have hkL:k < (sw s i k).length:=by omega
   have hiL:i < (sw s i k).length:=by omega
   have zNS:∀ x:Int,k < ((sw s i k).set i x).length:=fun x=>by rw[zOY];exact hkL
   refine qQ k rfl hk (qP hkL (qQ i rfl hi2 (qP hiL (qQ i rfl hi2 (qP hiL (qQ k rfl hk (qP (zNS _) ?_)))))));rw[zBC hiL hkL,zCV hi' hk];have hS:∀ x y,x < y->((y < k∨(y=k∧x < i+1)) ↔ (y < k∨(y=k∧x < i))∨(x=i∧y=k)):=fun x y _=>by omega
   have wi:IntKind.i64.wrap ((i:Int)+1)=((i+1:Nat):Int):=xO (by omega);have hab:b=0->a=0:=fun h=>by subst h;exact (qQN q1).1
   refine yG (fun t=>t=true ↔ upC (fsw ti fi se s) w a b i k) ?_ ?_
   ·refine zU (fun c=>?_) fun c=>qA ⟨_,rfl,?_⟩
    ·rw[qF4,zOE] at c;have c:¬ fsw ti fi se s i k < w:=of_decide_eq_false c;refine zU (fun d=>zS rfl (qN (pqn _ _ _ _) (zU (fun g=>zS rfl ?_) fun g=>qA ⟨_,rfl,?_⟩))) fun d=>qA ⟨_,rfl,?_⟩
     ·have d:fsw ti fi se s i k=w:=by rw[qM0] at d;exact beq_iff_eq.1 d
      obtain⟨cc,h1,h2⟩:=h78 i k a b;refine qN h1 (qA ⟨_,rfl,?_⟩);rw[decide_eq_true_iff,h2]
      have hb0:b≠0:=fun h=>by
       have:=hab h;subst h this;cases g
      unfold upC;constructor
      ·intro h;exact .inr ⟨d,hb0,h⟩
      ·rintro (h | ⟨_,_,h⟩)
       ·exact absurd h c
       ·exact h
     ·rw[qM0] at g
      have hb0:b=0:=by
       have g:(!((a:Int)==0&&(b:Int)==0))=false:=g;simp at g;omega
      unfold upC;constructor
      ·intro h;cases h
      ·rintro (h | ⟨_,h,_⟩)
       ·exact absurd h c
       ·exact absurd hb0 h
     ·have d:fsw ti fi se s i k≠w:=by rw[qM0] at d;exact beq_eq_false_iff_ne.1 d
      unfold upC;constructor
      ·intro h;cases h
      ·rintro (h | ⟨h,_⟩)
       ·exact absurd h c
       ·exact absurd h d
    ·rw[qF4,zPY] at c;exact⟨fun _=>.inl (of_decide_eq_true c),fun _=>rfl⟩
   ·intro t ht
    cases t with
    | true=>exact zS rfl (zS rfl (qA ⟨(fsw ti fi se s i k,i,k),by rw[wi];rfl,q5Q q1 hi' hS (ht.1 rfl)⟩))
    | false=>exact yH rfl (qA ⟨(w,a,b),by rw[wi],q7K q1 hi' hS fun h=>by cases ht.2 h⟩)
  ·rintro⟨w,a,b⟩ q1;exact yH (mX (show ¬ (k:Int) < (k:Int) by omega)) (qA ⟨_,rfl,qA ⟨(w,a,b),rfl,wL q1 fun x y hxy=>by show y < k+1 ↔ (y < k∨(y=k∧x < k));omega⟩⟩)
 ·rintro⟨w,a,b⟩ q1;have q1:Inv (fsw ti fi se s) (tm ti fi se s) (fun _ k=>k < s.length) w a b:=q1;refine yH (mX (show ¬ (s.length:Int) < (s.length:Int) by omega)) (qA ⟨_,rfl,zS rfl (qN (pq _ _ _ _) ?_)⟩)
  cases g1 with
  | done hd =>
    have hb0:b=0:=Decidable.not_not.1 fun hb=>by
     obtain⟨h1,h2,h3,h4⟩:=qEX q1 hb;have:=hd a b h1 h2;omega
    subst hb0;have ha0:=(qQN q1).1;subst ha0;exact zS rfl (qA (qA rfl))
  | step hI hb0 hr =>
    obtain⟨rfl,rfl,rfl⟩:=qN3 q1 hI;obtain⟨h1,h2,h3,h4⟩:=qEX q1 hb0;have ha:a < s.length:=by omega
    have hbs:∀ x:Int,b < (s.set a x).length:=fun x=>by rw[zOY];exact h2
    have hps:=q02 g2 ha h2;have e:w=tm ti fi se (sw s a b):=h3;have hrg:=q6K v (qZL g2 g3 ha h2) (by rw[vG];omega);refine yH (by show ((a:Int)==0&&(b:Int)==0)=false;simp;omega) (zS rfl (zS rfl ?_));refine qP (l:=[(a:Int),(b:Int)]) (i:=0) (by simp) (zS rfl (zS rfl ?_));refine qP (l:=[(a:Int),(b:Int)]) (i:=1) (by simp) (zS rfl (zS rfl ?_));refine qP (l:=[(a:Int),(b:Int)]) (i:=1) (by simp) (qQ b rfl h2 (qP h2 (zS rfl (zS rfl ?_))));refine qP (l:=[(a:Int),(b:Int)]) (i:=0) (by simp) (qQ a rfl ha (qP ha (qQ a rfl ha (qP ha (qQ b rfl h2 (qP (hbs _) ?_))))));rw[zBC ha h2];refine qA ⟨⟨hr,hps,by rw[vG];exact g3⟩,?_⟩;omega
end
end Go.Proofs.YtkmfigmiehpcpaaGreatDoor
