/- Plain laws of chapter 9: the best list is one, and no other is better. Conditions: none. -/
import Derived.Test.YtmkiipeghngchaaGreatDoorPV2
import Derived.Test.YtmkiipeghngchaaGreatDoorPU7
import Derived.Test.YtmkiipeghngchaaGreatDoorAW9
set_option linter.all false
set_option maxRecDepth 10000
set_option maxHeartbeats 100000000
namespace Go.Proofs.YtmkiipeghngchaaGreatDoor
open Go Go.Idl Go.Sv Go.Proofs
theorem qQU {ts:List Int}{m:Int}{M:Nat}(h:Vd ts m M):cs M ts (sp M ts ts.length []).2=(opt M ts,0):=by
 obtain⟨h1,h2,h3⟩:=qDM h.lo ts.length [] (by simp) rfl (ts:=ts);unfold cs;rw[if_neg (fun q=>q h2),if_neg (by rw[h1];simp)];show _=((sp M ts ts.length []).1,_);rw[h3]
theorem Vd.rev {ts:List Int}{m:Int}{M:Nat}(h:Vd ts m M):Vd ts.reverse m M:=⟨h.m,h.lo,h.hi,by have:=h.len;simpa using this,qWF h.ts⟩
theorem Vd.to {ts:List Int}{m:Int}{M:Nat}(h:Vd ts m M){K:Nat}(h1:1<=K)(h2:K<=16):Vd ts (K:Int) K:=⟨rfl,h1,h2,h.len,h.ts⟩
theorem zE3 (ts:List Int)(m:Int)(a:List Int):H8 (ts,m,a)=some true:=by
 refine OkT.eq ?_;have aw:=awake;unfold H8 G8
 revert aw
 generalize H9 ()=o9;intro aw;unfold zFC.run;dsimp only;refine zS aw (aR rfl (wT (fun c1=>wT (fun c2=>?_) fun c2=>zS aw (qR rfl)) fun c1=>zS aw (qR rfl)));rw[qZP,zPN] at c1 c2;have c1:=of_decide_eq_false c1;have c2:=of_decide_eq_false c2;have hl:ts.length<=7:=by omega
 have ha:a.length<=7:=by omega
 refine zS (h35 (by omega)) (wT (fun c3=>wT (fun c4=>zS aw (qR rfl)) fun c4=>?_) fun c3=>zS aw (qR rfl));have c4:=of_decide_eq_false c4;rw[qZP,zPN,bne_eq_false_iff_eq] at c3;obtain⟨M,h⟩:=zDG c3;have hm:=h.m;have hM1:=h.lo;subst hm;obtain⟨s1,s2,s3⟩:=qDM h.lo ts.length [] (by simp) rfl (ts:=ts);have hk:Vd ts ((M+1:Nat):Int) (M+1):=h.to (by omega) (by omega);have h1:Vd ts ((1:Nat):Int) 1:=h.to (by omega) (by omega);have w1:IntKind.i64.wrap ((M:Int)+1)=((M+1:Nat):Int):=sV (by omega);obtain⟨_,k2,_⟩:=qDM hk.lo ts.length [] (by simp) rfl (ts:=ts);obtain⟨_,o2,_⟩:=qDM h1.lo ts.length [] (by simp) rfl (ts:=ts);rw[w1];refine zS (h38 h (by omega)) (zS ((h36 h (a:=(sp M ts ts.length []).2) (by omega)).trans (congrArg some (qQU h))) (zS (h37 h) (zS (h38 hk (by omega)) (zS ((h36 hk (a:=(sp (M+1) ts ts.length []).2) (by omega)).trans (congrArg some (qQU hk))) (zS (h38 h1 (by omega)) (zS ((h36 h1 (a:=(sp 1 ts ts.length []).2) (by omega)).trans (congrArg some (qQU h1))) (aR rfl ?_)))))));have e1:=q52 h;have e2:=q06 hM1 h.ts;have e3:=q80 h.ts;refine aR (by rw[qZP,decide_eq_false (show ¬ opt M ts < bnd ts M by omega)];rfl) (aR (by rw[qZP,decide_eq_false (show ¬ opt M ts < opt (M+1) ts by omega)];rfl) (zS (h46 h.ts (by omega)) (qJZ (by rw[e3];simp) (zS (h36 h (by omega)) ?_))));have hrev:=h.rev;have hlr:ts.reverse.length=ts.length:=List.length_reverse;obtain⟨_,r2,_⟩:=qDM hrev.lo ts.reverse.length [] (by simp) rfl (ts:=ts.reverse);refine wT (fun c5=>wT (fun c6=>?_) fun c6=>?_) fun c5=>?_
 ·exfalso;have c6:=of_decide_eq_true c6;rw[zEN] at c5
  revert c5 c6
  unfold cs;split
  ·intro c5;cases c5
  ·rename_i q1;split
   ·intro c5;cases c5
   ·rename_i q2;intro _ c6;have:=qVT hM1 h.ts (show rJ M a=false by simpa using q2) (by omega);have c6:mx (lds M ts a a.length) < opt M ts:=c6;omega
 all_goals
  refine qBZ ts.length (fun k (s:List Int)=>((k:Int),s)) (fun k s=>s=ts.reverse.take k) [] rfl rfl ?_ ?_
  ·intro k s hk hs
   have w2:IntKind.i64.wrap (IntKind.i64.wrap ((ts.length:Int) - 1) - (k:Int))=((ts.length - 1 - k:Nat):Int):=by
    rw[qBI (n:=(ts.length:Int) - 1) (by omega) (by omega),qBI (by omega) (by omega)];omega
   have hk2:ts.length - 1 - k < ts.length:=by omega
   have hsl:s.length<=ts.length:=by rw[hs,zQE,hlr];omega
   refine aR (qTR (show (k:Int) < (ts.length:Int) by omega)) (yY (ts.length - 1 - k) w2 hk2 (kD hk2 (aR (zPD (show s.length+1<=1048576 by omega)) (qR ⟨s++[ts[ts.length - 1 - k]],?_,?_⟩))))
   ·simp only[sV (show k < 2 ^ 62 by omega)]
   ·show s++_=_;rw[List.take_add_one,zOX (by rw[hlr];exact hk),List.getElem_reverse,hs];rfl
  ·intro s hs
   have hs:s=ts.reverse:=by
    have hs:s=ts.reverse.take ts.length:=hs;rw[hs,zPI (by rw[hlr];exact zOV _)]
   subst hs;refine qJZ (qYM (show ¬ (ts.length:Int) < (ts.length:Int) by omega)) (qR ⟨_,rfl,?_⟩);refine zS (h38 hrev (show ts.reverse.length<=8 by omega)) (zS ((h36 hrev (a:=(sp M ts.reverse ts.reverse.length []).2) (by omega)).trans (congrArg some (qQU hrev))) (zS (qXS (by omega)) ?_));refine qBZ ts.length (fun k (s:Int×List Int)=>(s.1,(k:Int),s.2)) (fun k s=>s.2=lds M ts (sp M ts ts.length []).2 k∧s.1=mx (lds M ts (sp M ts ts.length []).2 k)) (0,List.replicate M 0) rfl ⟨rfl,(qH9 [] M).symm⟩ ?_ ?_
   ·rintro k ⟨mo,l⟩ hk ⟨g1,g2⟩;have g1:l=lds M ts (sp M ts ts.length []).2 k:=g1;have g2:mo=mx (lds M ts (sp M ts ts.length []).2 k):=g2;have hka:k < (sp M ts ts.length []).2.length:=by omega
    obtain⟨K,q1,q2⟩:=oQ s1 k hka;have hll:l.length=M:=by rw[g1,qF6]
    have hKl:K < l.length:=by omega
    have hrg:Rg l (1000000*k):=by
     rw[g1];have:=qA4 (a:=(sp M ts ts.length []).2) (rg0 M) (zP2 _) h.ts k
     rwa [Int.zero_add] at this
    have hKs:∀ v:Int,K < (l.set K v).length:=fun v=>by rw[zQM];exact hKl
    refine aR (qTR (show (k:Int) < ((sp M ts ts.length []).2.length:Int) by omega)) (aR (by rw[qZP,decide_eq_false (show ¬ (ts.length:Int)<=(k:Int) by omega)];rfl) (yY k rfl hka (kD hka (aR (by rw[qZP,decide_eq_false (show ¬ (sp M ts ts.length []).2[k] < 0 by omega)];rfl) (yY k rfl hka (kD hka (qJZ (decide_eq_false (show ¬ (M:Int)<=(sp M ts ts.length []).2[k] by omega)) (yY k rfl hka (kD hka (yY K q1 hKl (kD hKl (yY k rfl hk (kD hk (yY K q1 hKl (kD hKl (yY k rfl hka (kD hka (yY K q1 hKl (kD (hKs _) (qR ⟨(bif decide (mo < (l.set K (IntKind.i64.wrap (l[K]+ts[k])))[K]'(hKs _)) then (l.set K (IntKind.i64.wrap (l[K]+ts[k])))[K]'(hKs _) else mo,l.set K (IntKind.i64.wrap (l[K]+ts[k]))),?_,?_,?_⟩))))))))))))))))))))
    ·simp only[sV (show k < 2 ^ 62 by omega)]
    ·show l.set K _=ad (lds M ts (sp M ts ts.length []).2 k) ((sp M ts ts.length []).2.getD k 0).toNat (ts.getD k 0);rw[qQ3 (M:=M) hrg (by omega) hKl h.ts hk,<-g1,jJ hka,q1,zPV];rfl
    ·show (bif decide (mo < (l.set K _)[K]'_) then (l.set K _)[K]'_ else mo)=mx (ad (lds M ts (sp M ts ts.length []).2 k) ((sp M ts ts.length []).2.getD k 0).toNat (ts.getD k 0));rw[List.getElem_set_self,qQ3 (M:=M) hrg (by omega) hKl h.ts hk,jJ hka,q1,zPV,<-g1,q56 hKl (h.ts.get (by omega) k).1 fun x hx=>(hrg x hx).1,g2,<-g1]
     cases hd:decide (mx l < l.getD K 0+ts.getD k 0) with
     | true=>rw[if_pos (of_decide_eq_true hd)];rfl
     | false=>rw[if_neg (of_decide_eq_false hd)];rfl
   ·rintro⟨mo,l⟩ ⟨g1,g2⟩;have g2:mo=mx (lds M ts (sp M ts ts.length []).2 ts.length):=g2
    have hmo:mo=opt M ts:=by
     have s3:=s3;rw[s2] at s3;rw[g2];exact s3.symm
    refine qJZ (qYM (show ¬ (ts.length:Int) < ((sp M ts ts.length []).2.length:Int) by omega)) (qR ⟨_,rfl,?_⟩);refine aR rfl (aR ?_ (qR ?_))
    ·rw[zEN];show (opt M ts.reverse==opt M ts)=true;rw[q55 hM1 h.ts];simp
    ·show (mo==opt M ts)=true;rw[hmo];simp
end Go.Proofs.YtmkiipeghngchaaGreatDoor
