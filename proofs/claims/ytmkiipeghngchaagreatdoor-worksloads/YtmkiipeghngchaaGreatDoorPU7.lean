/- Plain laws of chapter 9: CheckSpread, Spread and Bound return what the reference returns. Conditions: none. -/
import Derived.Test.YtmkiipeghngchaaGreatDoorPU6
import Derived.Test.YtmkiipeghngchaaGreatDoorAW9
set_option linter.all false
set_option maxRecDepth 10000
set_option maxHeartbeats 100000000
namespace Go.Proofs.YtmkiipeghngchaaGreatDoor
open Go Go.Idl Go.Sv Go.Proofs
theorem q2B {l:List Int}{i:Nat}{t:Int}(ht:0<=t)(hl:∀ x∈l,0<=x):mx (ad l i t)<=mx l+t:=by
 by_cases hi:i < l.length
 ·rw[q7K hi ht hl];have:=qYJ (zPA hi);rw[vZ hi];split <;> omega
 ·unfold ad;rw[List.set_eq_of_length_le (by omega)];omega
theorem q3G {M:Nat}{ts a:List Int}(h:Rg ts 1000000):∀ k,mx (lds M ts a k)<=ttK ts k
 | 0=>by
   have:=qNU [] M;show mx (List.replicate M 0)<=0;rw[show mx (List.replicate M 0)=0 from this];exact zPO _
 | k+1=>by
   have h1:=q3G (M:=M) (a:=a) h k;have h2:=qED (a:=a) (rg0 M) (zPO _) h k;have h3:=q2B (l:=lds M ts a k) (i:=(a.getD k 0).toNat) (h.get (by omega) k).1 fun x hx=>(h2 x hx).1
   show mx (ad (lds M ts a k) _ _)<=ttK ts k+_;omega
theorem q4H {f:Nat->Int×List Int}{v:Int}:∀ {n:Nat},(∀ k,k < n->(f k).1<=v)->0 < n->(bst f n).1<=v
 | 0,_,h=>by omega
 | k+1,h,_=>by
   show (if (bst f k).1 < 0∨(f k).1 < (bst f k).1 then f k else bst f k).1<=v;split
   ·exact h k (by omega)
   ·rename_i hc;by_cases hk:k=0
    ·subst hk;exact absurd (.inl (show (-1:Int) < 0 by decide)) hc
    ·exact q4H (fun j hj=>h j (by omega)) (by omega)
theorem zA4 {M:Nat}{ts:List Int}(hM:1<=M)(ht:Rg ts 1000000):∀ (d:Nat) (b:List Int),b.length+d=ts.length->qLZ M b=false->(sp M ts d b).1<=ttK ts ts.length
 | 0,b,hl,_=>by
   have hl:b.length=ts.length:=hl;rw[<-hl];exact q3G ht _
 | d+1,b,hl,hb=>q4H (fun k hk=>zA4 hM ht d _ (by simp;omega) (dS hb ((cnt_lt hb).1 hk).2)) (qM7 hM hb)
theorem zB4 (a b:Int):fnz [a,b]=cond (a != 0) a b:=by
 show cond (a != 0) a (cond (b != 0) b 0)=_;by_cases h:b=0
 ·subst h;rfl
 ·rw[bne_iff_ne.2 h];rfl
theorem zEM {ts:List Int}{m:Int}(hl:ts.length<=35)(hb:nK ts m≠0):H38 (ts,m)=some ([],nK ts m):=by
 refine OkT.eq ?_;show OkT (G38 (qDF S86 20) ts m) _;unfold G38;refine qZ (h82 (by omega)) (qZ (h59 _ _) (qZ (h58 _ (by simp)) ?_));rw[zB4,bne_iff_ne.2 hb];exact vY (bne_iff_ne.2 hb) (qI rfl)
theorem zED {ts:List Int}{m:Int}{M:Nat}(h:Vd ts m M)(hl:8 < ts.length):H38 (ts,m)=some ([],22):=by
 have hlen:=h.len;refine OkT.eq ?_;show OkT (G38 (qDF S86 20) ts m) _;unfold G38;refine qZ (h82 (by omega)) (qZ (h59 _ _) (qZ (h58 _ (by simp)) ?_));rw[zB4,h.bad,show decide (8 < (ts.length:Int))=true from decide_eq_true (by omega)];exact vY rfl (qI rfl)
theorem h38 {ts:List Int}{m:Int}{M:Nat}(h:Vd ts m M)(hl:ts.length<=8):H38 (ts,m)=some ((sp M ts ts.length []).2,0):=by
 have hm:=h.m;subst hm;have hM1:=h.lo;refine OkT.eq ?_;show OkT (G38 (qDF S86 20) ts (M:Int)) _;unfold G38;refine qZ (h82 (by omega)) (qZ (h59 _ _) (qZ (h58 _ (by simp)) ?_));rw[zB4,h.bad,show decide (8 < (ts.length:Int))=false from decide_eq_false (by omega)];refine rE rfl ?_;refine tK ts.length (fun k (s:Int)=>(s,(k:Int))) (fun k s=>s=ttK ts k) 0 rfl rfl ?_ ?_
 ·intro k s hk hs;have h65:H65 ts[k]=some ts[k]:=rfl;refine vY (qN3 (show (k:Int) < (ts.length:Int) by omega)) (yL k rfl hk (xJ hk (qZ h65 (qI ⟨ttK ts (k+1),?_,rfl⟩))));rw[hs];simp only[q6B h.ts hk (by omega),eB (show k < 2 ^ 62 by omega)]
 ·intro s hs;refine rE (qRG (show ¬ (ts.length:Int) < (ts.length:Int) by omega)) (qI ⟨_,rfl,?_⟩);have hs:s=ttK ts ts.length:=hs;subst hs;have ht:=qVQ h.ts ts.length;have hle:=zA4 hM1 h.ts ts.length [] (by simp) rfl;obtain⟨l',q1,_⟩:=s86 h hl ts.length 20 [] [] [] (ttK ts ts.length+1) (by omega) (by simp) rfl rfl (zOA _) (by simp);have hw:IntKind.i64.wrap (ttK ts ts.length+1)=ttK ts ts.length+1:=qI4 (by omega) (by omega);have hu:upd ([],ttK ts ts.length+1) (sp M ts ts.length [])=((sp M ts ts.length []).2,(sp M ts ts.length []).1):=if_pos (show (sp M ts ts.length []).1 < ttK ts ts.length+1 by omega);rw[hu] at q1;generalize qDF S86 20=R at q1 ⊢;show OkT (zEP.bind (R (0,[],[0,0,0,0,0,0,0,0,0,0,0,0,0,0,0,0],IntKind.i64.wrap (ttK ts ts.length+1),((0:Nat):Int),ts,[],(M:Int))) fun x8=>(zEP.ret (x8.2.2.2.2.2.2.1,(0:Int)):zEP (List Int×Int))) _;rw[hw];exact qZ q1 (qI rfl)
theorem h41 {ts:List Int}{m:Int}{M:Nat}(h:Vd ts m M)(hl:ts.length<=8):H41 (ts,m,[])=some (sp M ts ts.length []):=by
 have:=r41 h ts.length 14 [] (by omega) (by simp) rfl;show R41 14 (ts,m,[])=_;exact this
theorem q4C {M:Nat}{ts:List Int}(hM:1<=M)(ht:Rg ts 1000000):∀ (d:Nat) (b:List Int),qLZ M b=false->(sp M ts d b).2.length<=b.length+d
 | 0,b,_=>zOA _
 | d+1,b,hb=>by
   have key:∀ n,n<=cnt M b->(bst (fun k=>sp M ts d (b++[(k:Int)])) n).2.length<=b.length+(d+1):=by
    intro n
    induction n with
    | zero=>intro _;exact zP8 _
    | succ n ih =>
      intro hn;show (if _∨_ then sp M ts d (b++[(n:Int)]) else bst _ n).2.length<=_;split
      ·have:=q4C hM ht d (b++[(n:Int)]) (dS hb ((cnt_lt hb).1 (by omega)).2);simp at this;omega
      ·exact ih (by omega)
   exact key _ (zOA _)
theorem zEK (ts:List Int)(m:Int)(a:List Int):H5 (ts,m,a)=some true:=by
 refine OkT.eq ?_;have aw:=awake;unfold H5 G5
 revert aw
 generalize H9 ()=o9;intro aw;unfold zEP.run;dsimp only;refine qZ aw (vY rfl (jO (fun c1=>jO (fun c2=>qZ aw (qI rfl)) fun c2=>?_) fun c1=>qZ aw (qI rfl)));rw[q8A,zO0] at c1;have c1:=of_decide_eq_false c1;have c2:=of_decide_eq_false c2;have hl:ts.length<=35:=by omega
 have ha:a.length<=35:=by omega
 by_cases hb:nK ts m=0
 ·obtain⟨M,h⟩:=zC7 hb;have hlen:=h.len;refine qZ (h35 (by omega)) (qZ (h36 h ha) (qZ (h37 h) (rE (by rw[hb];rfl) (qZ (h39 h ha) ?_))))
  have hcs:H16 ((cs M ts a).1,(cs M ts a).2,(cs M ts a).2,(cs M ts a).1)=some true:=by
   unfold cs;split
   ·exact zBP 0 (by decide)
   ·split
    ·exact zBP 0 (by decide)
    ·exact zDT _
  refine qZ hcs (vY rfl (qZ (h40 h) (qZ (zDT _) (rE rfl ?_))));have hsl:=q4C h.lo h.ts ts.length [] rfl
  have hfin:ts.length<=8->OkT (zEP.bind (H38 (ts,m)) fun (x11:List Int×Int)=>zEP.ite (decide (8 < (↑ts.length:Int))) (zEP.bind (H17 (x11.fst,x11.snd,22,[])) fun (x12:Bool)=>zEP.ret x12) (zEP.bind (H41 (ts,m,[])) fun (x12:Int×List Int)=>zEP.bind (H17 (x11.fst,x11.snd,0,x12.snd)) fun (x13:Bool)=>zEP.ret x13)) fun x=>x=true:=fun h8=>by
   refine qZ (h38 h h8) (rE (decide_eq_false (by omega)) (qZ (h41 h h8) (qZ (zEB (show (sp M ts ts.length []).2.length < 2 ^ 62 by simp at hsl;omega)) (qI rfl))))
  refine jO (fun c3=>jO (fun c4=>qI rfl) fun c4=>?_) fun c3=>?_
  ·have c4:=of_decide_eq_false c4;exact qZ (zED h (by omega)) (vY (decide_eq_true (by omega)) (qZ (zDN _ (by decide)) (qI rfl)))
  ·rw[zEL] at c3;have c3:=of_decide_eq_false c3;exact hfin (by omega)
 ·refine qZ (h35 (by omega)) (qZ (zD9 hl ha hb) (qZ (zEJ hl hb) (vY (bne_iff_ne.2 hb) (qZ (zEM hl hb) (qZ (zBP _ hb) (vY rfl (qZ (zBP _ hb) (vY rfl (qZ (zDN _ hb) (qI rfl))))))))))
end Go.Proofs.YtmkiipeghngchaaGreatDoor
