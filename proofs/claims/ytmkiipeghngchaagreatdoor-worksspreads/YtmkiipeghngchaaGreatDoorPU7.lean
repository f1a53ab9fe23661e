/- Plain laws of chapter 9: CheckSpread, Spread and Bound return what the reference returns. Conditions: none. -/
import Derived.Test.YtmkiipeghngchaaGreatDoorPU6
import Derived.Test.YtmkiipeghngchaaGreatDoorAW9
set_option linter.all false
set_option maxRecDepth 10000
set_option maxHeartbeats 100000000
namespace Go.Proofs.YtmkiipeghngchaaGreatDoor
open Go Go.Idl Go.Sv Go.Proofs
theorem q2L {l:List Int}{i:Nat}{t:Int}(ht:0<=t)(hl:∀ x∈l,0<=x):mx (ad l i t)<=mx l+t:=by
 by_cases hi:i < l.length
 ·rw[q56 hi ht hl];have:=qJA (zPW hi);rw[jJ hi];split <;> omega
 ·unfold ad;rw[List.set_eq_of_length_le (by omega)];omega
theorem q41 {M:Nat}{ts a:List Int}(h:Rg ts 1000000):∀ k,mx (lds M ts a k)<=ttK ts k
 | 0=>by
   have:=qH9 [] M;show mx (List.replicate M 0)<=0;rw[show mx (List.replicate M 0)=0 from this];exact zP2 _
 | k+1=>by
   have h1:=q41 (M:=M) (a:=a) h k;have h2:=qA4 (a:=a) (rg0 M) (zP2 _) h k;have h3:=q2L (l:=lds M ts a k) (i:=(a.getD k 0).toNat) (h.get (by omega) k).1 fun x hx=>(h2 x hx).1
   show mx (ad (lds M ts a k) _ _)<=ttK ts k+_;omega
theorem q5J {f:Nat->Int×List Int}{v:Int}:∀ {n:Nat},(∀ k,k < n->(f k).1<=v)->0 < n->(bst f n).1<=v
 | 0,_,h=>by omega
 | k+1,h,_=>by
   show (if (bst f k).1 < 0∨(f k).1 < (bst f k).1 then f k else bst f k).1<=v;split
   ·exact h k (by omega)
   ·rename_i hc;by_cases hk:k=0
    ·subst hk;exact absurd (.inl (show (-1:Int) < 0 by decide)) hc
    ·exact q5J (fun j hj=>h j (by omega)) (by omega)
theorem zBQ {M:Nat}{ts:List Int}(hM:1<=M)(ht:Rg ts 1000000):∀ (d:Nat) (b:List Int),b.length+d=ts.length->rJ M b=false->(sp M ts d b).1<=ttK ts ts.length
 | 0,b,hl,_=>by
   have hl:b.length=ts.length:=hl;rw[<-hl];exact q41 ht _
 | d+1,b,hl,hb=>q5J (fun k hk=>zBQ hM ht d _ (by simp;omega) (uR hb ((cnt_lt hb).1 hk).2)) (qHJ hM hb)
theorem zE9 (a b:Int):fnz [a,b]=cond (a != 0) a b:=by
 show cond (a != 0) a (cond (b != 0) b 0)=_;by_cases h:b=0
 ·subst h;rfl
 ·rw[bne_iff_ne.2 h];rfl
theorem h38 {ts:List Int}{m:Int}{M:Nat}(h:Vd ts m M)(hl:ts.length<=8):H38 (ts,m)=some ((sp M ts ts.length []).2,0):=by
 have hm:=h.m;subst hm;have hM1:=h.lo;refine OkT.eq ?_;show OkT (G38 (qE7 S86 20) ts (M:Int)) _;unfold G38;refine zS (h82 (by omega)) (zS (h59 _ _) (zS (h58 _ (by simp)) ?_));rw[zE9,h.bad,show decide (8 < (ts.length:Int))=false from decide_eq_false (by omega)];refine qJZ rfl ?_;refine qBZ ts.length (fun k (s:Int)=>(s,(k:Int))) (fun k s=>s=ttK ts k) 0 rfl rfl ?_ ?_
 ·intro k s hk hs;have h65:H65 ts[k]=some ts[k]:=rfl;refine aR (qTR (show (k:Int) < (ts.length:Int) by omega)) (yY k rfl hk (kD hk (zS h65 (qR ⟨ttK ts (k+1),?_,rfl⟩))));rw[hs];simp only[q65 h.ts hk (by omega),sV (show k < 2 ^ 62 by omega)]
 ·intro s hs;refine qJZ (qYM (show ¬ (ts.length:Int) < (ts.length:Int) by omega)) (qR ⟨_,rfl,?_⟩);have hs:s=ttK ts ts.length:=hs;subst hs;have ht:=qKI h.ts ts.length;have hle:=zBQ hM1 h.ts ts.length [] (by simp) rfl;obtain⟨l',q1,_⟩:=s86 h hl ts.length 20 [] [] [] (ttK ts ts.length+1) (by omega) (by simp) rfl rfl (zOV _) (by simp);have hw:IntKind.i64.wrap (ttK ts ts.length+1)=ttK ts ts.length+1:=qBI (by omega) (by omega);have hu:upd ([],ttK ts ts.length+1) (sp M ts ts.length [])=((sp M ts ts.length []).2,(sp M ts ts.length []).1):=if_pos (show (sp M ts ts.length []).1 < ttK ts ts.length+1 by omega);rw[hu] at q1;generalize qE7 S86 20=R at q1 ⊢;show OkT (zFC.bind (R (0,[],[0,0,0,0,0,0,0,0,0,0,0,0,0,0,0,0],IntKind.i64.wrap (ttK ts ts.length+1),((0:Nat):Int),ts,[],(M:Int))) fun x8=>(zFC.ret (x8.2.2.2.2.2.2.1,(0:Int)):zFC (List Int×Int))) _;rw[hw];exact zS q1 (qR rfl)
end Go.Proofs.YtmkiipeghngchaaGreatDoor
