/- Operations on values without a heap against the ideal ones: builtins; one operation. Conditions: none. -/
import Derived.Test.YtdohendjiddokaaGreatDoorPurA
set_option linter.all false
namespace Go.Idl
variable [Gc]
variable {P:Program}{Z:Nat->Prop}{H:IH}{M:Nat->Option (Nat×PO)}{m:Nat->Nat}{ph:PHp}
theorem aS {o:Oper}{b:Builtin}{args:Array Operand}{ts:Array TypeId}{env:Env}{s:zGU}(h:yG P b ⟨.builtin b,args,ts⟩ (jA env.val args.toList) H=some s):yJ P o ⟨.builtin b,args,ts⟩ env H=some s:=by
 have:fP P ⟨.builtin b,args,ts⟩ env H=some s:=h;unfold yJ;rw[this]
theorem qMR {o:Oper}{b:Builtin}{args:Array Operand}{ts:Array TypeId}{env:Env}{s:Option zGU}(hn:yG P b ⟨.builtin b,args,ts⟩ (jA env.val args.toList) H=none)(h:jE P o env H=s):yJ P o ⟨.builtin b,args,ts⟩ env H=s:=by
 have:fP P ⟨.builtin b,args,ts⟩ env H=none:=hn;unfold yJ;rw[this];exact h
theorem zBN (P:Program){v a:Value}(h:pl (ofC v)=some a):a=v:=(yL (P:=P) (Z:=fun _=>False) (H:=H00) (M:=fun _=>none) (mD v) h).symm
theorem dH (P:Program){env:List PV}{x:Operand}{a:Value}(h:pl (qJ env x)=some a):(qSI env).val x=a:=by
 cases x with
 | tmp t =>
   have h:pl ((zG env t).getD .unk)=some a:=h;unfold Env.val qSI;rw[qF] at h;simp only[qF,xI,zQD]
   cases he:env[t]? with
   | none=>rw[he] at h;cases h
   | some y=>rw[he] at h;simp only[zR5] at h;simp[erV,h]
 | const v=>exact (zBN P h).symm
 | global g=>cases h
 | func g=>cases h;rfl
theorem qH7:∀ {xs:List PV} {as:List Value},plL xs=some as->∀ x∈xs,∃ a,pl x=some a
 | [],_,_,x,hx=>by cases hx
 | y::xs,as,h,x,hx=>by
   unfold plL at h;split at h
   ·rename_i a ha;split at h
    ·rename_i as' has;rcases zQK.1 hx with rfl | hx
     ·exact⟨a,ha⟩
     ·exact qH7 has x hx
    ·cases h
   ·cases h
theorem qBL {d:Option Tmp}{b:Builtin}{args:Array Operand}{ts:Array TypeId}{ty:TypeId}{pos:String}{aft:Array Edge}{g:Option (Nat×Bool)}{env:List PV}{zGN:Env}{y:PV}{ph':PHp}(he:VRL P Z H (own m ph) env zGN)
 (hn:yG P b ⟨.builtin b,args,ts⟩ (jA zGN.val args.toList) H=none) (h:wC P b ⟨.builtin b,args,ts⟩ (args.toList.map (qJ env)) env ty ph=some (y,ph')) :
 ph'=ph∧∃ u,yJ P ⟨d,.call ⟨.builtin b,args,ts⟩,ty,pos,aft,g⟩ ⟨.builtin b,args,ts⟩ zGN H=some (.val u H)∧VR P Z H (own m ph) y u:=by
 unfold wC at h;split at h
 ·rename_i vs hvs;unfold pp1 at h;split at h
  ·rename_i v hv;cases h;refine⟨rfl,?_⟩
   obtain⟨u,h1,h2⟩:=qMS (P:=P) (Z:=Z) (H:=H) (M:=own m ph) (s:=jE P ⟨d,.call ⟨.builtin b,args,ts⟩,ty,pos,aft,g⟩ zGN H) hv fun w H0 hw=>by
    have e:jE P ⟨d,.call ⟨.builtin b,args,ts⟩,ty,pos,aft,g⟩ zGN H=jE P ⟨d,.call ⟨.builtin b,args,ts⟩,ty,pos,aft,g⟩ (qSI env) H:=by
     refine rM (fun cs b h=>by cases h) fun x hx=>?_
     have hx':x∈args:=by simpa [Op.operands,Call.operands] using hx
     obtain⟨a,ha⟩:=qH7 hvs (qJ env x) (zQR.2 ⟨x,by simpa using hx',rfl⟩);rw[dH P ha];exact yL (qK he x) ha
    rw[e];have e2:∀ H,jE P ⟨d,.call ⟨.builtin b,args,ts⟩,ty,pos,aft,g⟩ (qSI env) H=jE P (cop (.call ⟨.builtin b,args,ts⟩) ty) (qSI env) H:=fun H=>rfl
    rw[e2];exact qW8 hw H
   exact⟨u,qMR hn h1,h2⟩
  ·cases h
 ·cases h
theorem qV4 {el n:Nat}{cs:List FV}{v:Value}(h:VR P Z H M (.f (.l el n cs)) v):∃ a c,v=.slice a n c:=by
 cases h with
 | f h=>cases h <;> exact⟨_,_,rfl⟩
theorem q8G {d:Option Tmp}{x:Operand}{ts:Array TypeId}{ty:TypeId}{pos:String}{aft:Array Edge}{g:Option (Nat×Bool)}{env:Env}{px y:PV}(hx:VR P Z H (own m ph) px (env.val x))(h:q2L P ts px ph=some y) :
 ∃ u,yJ P ⟨d,.call ⟨.builtin .len,#[x],ts⟩,ty,pos,aft,g⟩ ⟨.builtin .len,#[x],ts⟩ env H=some (.val u H)∧VR P Z H (own m ph) y u:=by
 have hb:∀ s,pM P ts [env.val x] H=s->yG P .len ⟨.builtin .len,#[x],ts⟩ (jA env.val #[x].toList) H=s:=fun s h=>h
 unfold q2L at h;split at h
 ·rename_i t ht;split at h
  ·rename_i el he
   have hsl:∀ a n c,env.val x=.slice a n c->∃ u,yJ P ⟨d,.call ⟨.builtin .len,#[x],ts⟩,ty,pos,aft,g⟩ ⟨.builtin .len,#[x],ts⟩ env H=some (.val u H)∧VR P Z H (own m ph) (fvv (.int .i64 (n:Int))) u:=fun a n c hv=>by
    refine⟨goInt n,aS (hb _ ?_),jR rfl⟩;unfold pM;rw[ht,hv];simp only[zQO,zS he]
   split at h
   ·cases h;obtain⟨a,c,hv⟩:=qV4 hx;exact hsl _ _ _ hv
   ·cases h;exact hsl _ _ _ (yL hx rfl)
   ·rename_i k tt o n;split at h
    ·rename_i ob hl;split at h
     ·rename_i s hs
      cases hc:Nat.beq (tt*s) ob.cs.length with
      | false=>rw[hc] at h;cases h
      | true =>
        rw[hc] at h;cases h;obtain⟨hO,h0⟩:=wF hx hl hs (zPZ hc)
        rcases hO with ⟨_,_,_,rfl,hv⟩ | ⟨_,_,_,hv⟩
        ·exact hsl _ _ _ hv
        ·exact hsl _ _ _ hv
     ·cases h
    ·cases h
   ·cases h
  ·rename_i hne;split at h
   ·rename_i n el ha;cases h;refine⟨goInt n,aS (hb _ ?_),jR rfl⟩;unfold pM;rw[ht];simp only[zQO,qAK ha]
   ·cases h
 ·cases h
theorem qQ0 {x:PV}{v:Value}{s n:Nat}{new:List PV}(hp:Hp P Z H (own m ph))(hx:VR P Z H (own m ph) x v)(h:mX P s x ph=some (n,new)) :
 ∃ vs a c,v=.slice a n c∧jJ s n H v=some vs∧VRL P Z H (own m ph) new vs∧new.length=n*s:=by
 unfold mX at h;split at h
 ·rename_i el n' cs
  cases hc:Nat.beq (n'*s) cs.length with
  | false=>rw[hc] at h;cases h
  | true =>
    rw[hc] at h;cases h;have hlen:=zPZ hc
    cases hx with
    | f hx =>
      cases hx with
      | nil h0 hsp=>exact⟨[],_,_,rfl,by unfold jJ;simp[kL],by simpa using VRL.nil,by simp⟩
      | @l _ _ _ b o sp c vs hz hb hn hsp hl hcv =>
        refine⟨vs,_,_,rfl,?_,qW7 (by rw[kJ hl]) hcv,by simp[hlen]⟩;unfold jJ;by_cases h0:n=0
        ·subst h0
         have:vs=[]:=by
          have:=kJ hl;rw[<-hlen] at this;exact zQ9.1 (by omega)
         subst this;simp[kL]
        ·rw[if_neg h0];unfold wZ;rw[hlen];exact hl
 ·cases h;have:=yL hx rfl;subst this;exact⟨[],_,_,rfl,by unfold jJ;simp[kL],.nil,by simp⟩
 ·rename_i k tt o n';split at h
  ·rename_i ob hl;split at h
   ·rename_i s' hs
    cases hc:(Nat.beq (tt*s') ob.cs.length&&Nat.beq s s') with
    | false=>rw[hc] at h;cases h
    | true =>
      rw[hc] at h;cases h;rw[zPY] at hc;have h1:=zPZ hc.1;have h2:=zPZ hc.2;subst h2;obtain⟨hO,h0⟩:=wF hx hl hs h1
      rcases hO with ⟨g1,rfl,rfl,rfl,rfl⟩ | ⟨g1,g2,g3,rfl⟩
      ·exact⟨[],_,_,rfl,by unfold jJ;simp[kL],by simpa using VRL.nil,by simp⟩
      ·obtain⟨w1,w2,w3,vs,q1,q2,q3⟩:=hp.real hl (dJ h1 h0 g1) (kF hs);have hle:(o+n)*s<=tt*s:=zQ6 _ g2;rw[zSJ] at hle;refine⟨(vs.drop (o*s)).take (n*s),_,_,rfl,?_,(q2.drop _).take _,by simp;omega⟩;unfold jJ;by_cases hn0:n=0
       ·subst hn0;simp[kL]
       ·rw[if_neg hn0];unfold wZ;exact xU q1 (by rw[<-q2.len];omega) rfl
   ·cases h
  ·cases h
 ·cases h
theorem qX6 (g:Bool):bK (cond g zJ (0,0))=true:=by cases g <;> rfl
theorem qSM {el:TypeId}{i:TypeInfo}{need:Nat}{new:List Value}(hi:P.info? el=some i)(hs:kY P el=true)(hn:need<=1048576)(h1:new.all oneCell=true) :
 (decide (need<=2 ^ 40)&&decide (need*i.bytes<=2 ^ 45)&&new.all oneCell&&((wT P el).map (·.cells.size))==some i.size)=true:=by
 obtain⟨i',q1,q2,q3⟩:=qEU hs;rw[hi] at q1;cases q1;rw[q3,h1];simp only[beq_self_eq_true,zSC,zPY,decide_eq_true_eq];have:need*i.bytes<=1048576*4096:=Nat.mul_le_mul hn q2;omega
theorem qTL {ts:List TypeId}{base x y:PV}{vb vx:Value}{k:Nat}{ph':PHp}(hp:Hp P Z H (own m ph))(hb:H.base<=H.size)(hn:aC k ph=true)(hbase:VR P Z H (own m ph) base vb)(hx:VR P Z H (own m ph) x vx)(hkx:noK k x=true)(hkb:noK k base=true)
 (h:zV P ts base x k ph=some (y,ph')):Res P Z H m ph (fun j=>j==k) y ph' (u7 P ts.toArray [vb,vx] H):=by
 unfold zV at h;split at h
 ·rename_i st xt;split at h
  ·rename_i el el2 he he2;split at h
   ·rename_i s hs;split at h
    ·rename_i mm new hnew;obtain⟨vs,a,c,rfl,hf,hr,hlen⟩:=qQ0 hp hx hnew;obtain⟨i,hi,hisz⟩:∃ i,P.info? el=some i∧i.size=s+1:=qSD hs
     have hnews:qOU P el i (.slice el2) (.slice a mm c) H=some (mm,vs):=by
      unfold qOU;simp only[kL,qWH,cond_true,hisz,hf,zQC]
     have zLL:yB k new=true:=by
      unfold mX at hnew;split at hnew
      ·rename_i el3 n3 cs3
       cases hc:Nat.beq (n3*(s+1)) cs3.length with
       | false=>rw[hc] at hnew;cases hnew
       | true =>
         rw[hc] at hnew;cases hnew
         have key:∀ l:List FV,yB k (l.map PV.f)=true:=fun l=>by
          induction l with
          | nil=>rfl
          | cons a l ih=>simp only[zQG,yB,noK,ih,zQU]
         exact key _
      ·cases hnew;rfl
      ·split at hnew
       ·rename_i ob hl;split at hnew
        ·rename_i s' hs'
         cases hc:(Nat.beq (_*s') ob.cs.length&&Nat.beq (s+1) s') with
         | false=>rw[hc] at hnew;cases hnew
         | true =>
           rw[hc] at hnew;cases hnew;exact qDF (qCV (vE hn hl))
        ·cases hnew
       ·cases hnew
      ·cases hnew
     have iap:∀ bs len cap,u7 P #[st,xt] [.slice bs len cap,.slice a mm c] H=wL P el i bs len cap H (some (mm,vs)):=fun bs len cap=>by
      unfold u7;simp only[zS he,zS he2,hi,hnews]
     -- it grows into a new block
     have grow:∀ (old:List PV) (ovs:List Value) (n:Nat) (bs:Option Addr) (cap kk:Nat) (H1:IH) (php:PHp) (p:Nat->Bool),rC P el (s+1) old n new mm kk php=some (y,ph')->VRL P Z H (own m ph) old ovs->ovs.all oneCell=true->cap < n+mm->wZ i.size n H (.slice bs n cap)=some ovs ->
      qLJ el H bs=some H1->H1.size=H.size->H1.base=H.base->(∀ b,b < H.size->(∀ ob0,qA kk ph=some ob0->real ob0->b≠m kk)->H1.get b=H.get b)->(∀ j,j≠kk->qA j php=qA j ph) ->
      (p kk=true∨∃ ob0,qA kk ph=some ob0∧ob0.cs.length < (old++new).length∧ob0.el=el)->(∀ j,p j=true->j=kk∧aC kk ph=true∧yB kk (old++new)=true)->(∀ j,p j=true->(j==k)=true) ->
      Res P Z H m ph (fun j=>j==k) y ph' (wL P el i bs n cap H (some (mm,vs))):=by
      intro old ovs n bs cap kk H1 php p hg hro ho1 hcap hfi hki q1 q2 q3 q4 q5 q6 q7;unfold rC at hg
      cases hc:(Nat.ble (n+mm) 1048576&&(kY P el&&(Nat.beq (old.length) (n*(s+1))&&(Nat.beq new.length (mm*(s+1))&&new.all aN)))) with
      | false=>rw[hc] at hg;cases hg
      | true =>
        rw[hc] at hg;simp only[cond_true] at hg;simp only[zPY] at hc;obtain⟨c1,c2,c3,c4,c5⟩:=hc;obtain⟨rfl,rfl⟩:=fH hg;have l1:=zP8 c1;have l3:=zPZ c3;have l4:=zPZ c4;have hv1:=hr.one c5;obtain⟨r1,r2,r3⟩:=hp.zLI (p:=p) (k:=kk) (ob:=⟨el,true,old++new⟩) (vs:=ovs++vs) (ph0:=php) q1 q2 q3 (kF hs) (q5.imp id fun ⟨ob0,z1,z2,z3⟩=>⟨ob0,z1,z2,z3,qXF c2⟩) (by simpa using q6) (hro.append hr) (by rw[zTP,ho1,hv1];rfl) hb q4;refine⟨_,_,Z,_,?_,r1,qZZ wW hs (by omega) (by simp only[zQL,l3,l4,zSJ]) (fun _=>by omega),r2,fun j b' ob' hM=>?_⟩
        ·unfold wL;simp only[];rw[if_neg (by omega)];unfold qSG;rw[if_pos (qSM hi c2 l1 hv1)];simp only[hfi,hki,q1];rfl
        ·rcases r3 j b' ob' hM with h | h | h
         ·exact .inl h
         ·exact .inr (.inl h)
         ·exact .inr (.inr (q7 j h))
     split at h
     ·-- nil
      have:=yL hbase rfl;subst this
      cases h0:Nat.beq mm 0 with
      | true =>
        rw[h0] at h;cases h;have hm0:=zPZ h0;subst hm0
        have hv0:vs=[]:=by
         have:=hr.len;rw[hlen] at this;exact zQ9.1 (by omega)
        subst hv0;refine .same ?_ hp hbase;rw[show ([st,xt]:List TypeId).toArray=#[st,xt] from rfl,iap];rfl
      | false =>
        rw[h0] at h;have hm0:mm≠0:=fun e=>by subst e;cases h0
        rw[show ([st,xt]:List TypeId).toArray=#[st,xt] from rfl,iap];exact grow [] [] 0 none 0 k H ph (fun j=>j==k) h .nil rfl (by omega) (by unfold wZ;simp) rfl rfl rfl (fun _ _ _=>rfl) (fun _ _=>rfl) (.inl (by simp)) (fun j hj=>⟨by simpa using hj,hn,by simpa using zLL⟩) (fun j hj=>hj)
     ·-- a slice of an object
      rename_i j tt o n;split at h
      ·rename_i ob hl
       cases hc:(Nat.beq ob.el el&&(Nat.beq (tt*(s+1)) ob.cs.length&&Nat.beq o 0)) with
       | false=>rw[hc] at h;cases h
       | true =>
         rw[hc] at h;simp only[cond_true] at h;simp only[zPY] at hc;obtain⟨c1,c2,c3⟩:=hc;have e1:=zPZ c1;have e2:=zPZ c2;have e3:=zPZ c3;subst e1 e3;obtain⟨hO,hpos⟩:=wF hbase hl hs e2;rw[show ([st,xt]:List TypeId).toArray=#[st,xt] from rfl]
         cases h0:Nat.beq mm 0 with
         | true =>
           rw[h0] at h;cases h;have hm0:=zPZ h0;subst hm0
           have hv0:vs=[]:=by
            have:=hr.len;rw[hlen] at this;exact zQ9.1 (by omega)
           subst hv0
           rcases hO with ⟨g1,rfl,_,rfl,rfl⟩ | ⟨g1,g2,g3,rfl⟩
           ·refine .same ?_ hp hbase;rw[iap];rfl
           ·refine .same ?_ hp hbase;rw[iap];unfold wL;simp only[];rw[if_pos (by omega)];unfold qNY;have hsp:(cond ob.gr (some ob.el) none:Option TypeId)=none∨(cond ob.gr (some ob.el) none:Option TypeId)=some ob.el:=by cases ob.gr <;> simp
            simp only[pO hsp,if_true,List.isEmpty_nil,zSK]
         | false =>
           rw[h0] at h;simp only[cond_false] at h;have hm0:mm≠0:=fun e=>by subst e;cases h0
           cases hroom:Nat.ble (n+mm) tt with
           | true =>
             rw[hroom] at h;simp only[cond_true] at h;have hrm:=zP8 hroom
             cases hc2:(Nat.beq new.length (mm*(s+1))&&new.all aN) with
             | false=>rw[hc2] at h;cases h
             | true =>
               rw[hc2] at h;cases h;rw[zPY] at hc2
               rcases hO with ⟨g1,rfl,_,rfl,rfl⟩ | ⟨g1,g2,g3,rfl⟩
               ·omega
               ·have hre:=dJ e2 hpos g1;obtain⟨w1,w2,w3,ws,q1,q2,q3⟩:=hp.real hl hre (kF hs);have hle:(n+mm)*(s+1)<=tt*(s+1):=zQ6 _ hrm;rw[zSJ] at hle;have hv1:=hr.one hc2.2;obtain⟨r1,r2,r3⟩:=hp.put (cs:=yI ob.cs (n*(s+1)) new) hl hre (kF hs) (bW (by omega)) (q2.over hr (n*(s+1))) (qAY q3 hv1);refine⟨.slice (some ⟨m j,0*(s+1),cond ob.gr (some ob.el) none⟩) (n+mm) (tt - 0),_,Z,m,?_,r1,?_,r2,r3 _⟩
                ·rw[iap];unfold wL;simp only[];rw[if_pos (by omega)];unfold qNY;have hsp:(cond ob.gr (some ob.el) none:Option TypeId)=none∨(cond ob.gr (some ob.el) none:Option TypeId)=some ob.el:=by cases ob.gr <;> simp
                 simp only[pO hsp,if_true]
                 have hne:vs.isEmpty=false:=by
                  have:=hr.len;rw[hlen] at this
                  cases vs with
                  | nil =>
                    have h9:mm*(s+1)=0:=this;rcases zTN.1 h9 with h9 | h9 <;> omega
                  | cons=>rfl
                 rw[hne];simp only[zRY,if_false]
                 have hst:H.stores (m j) (0*(s+1)+n*i.size) vs=some (H.put (m j) (.cells (overwrite ws (n*(s+1)) vs).toArray ob.el (cond ob.gr zJ (0,0)))):=by
                  unfold IH.stores;rw[q1];simp only[hisz,zTR,zQI];rw[if_pos];simp only[qX6,hv1,w2,decide_true,zSC,decide_eq_true_eq,zSM];rw[<-q2.len,<-hr.len];omega
                 rw[hst]
                ·refine .own rfl fun b' ob' hM=>?_
                 have hk:own m (xO j { ob with cs:=yI ob.cs (n*(s+1)) new } ph) j=some (m j,{ ob with cs:=yI ob.cs (n*(s+1)) new }):=by
                  unfold own;rw[qY,if_pos ⟨rfl,by rw[hl];rfl⟩];rfl
                 rw[hk] at hM;cases hM;have hol:(yI ob.cs (n*(s+1)) new).length=ob.cs.length:=bW (by omega);exact⟨s+1,hs,by omega,by show tt*(s+1)<=(yI ob.cs (n*(s+1)) new).length;omega,fun _=>.inr ⟨g1,by omega,.inl rfl,rfl⟩⟩
           | false =>
             rw[hroom] at h;simp only[cond_false] at h
             have hrm:tt < n+mm:=by
              have:¬ (n+mm<=tt):=fun hle=>by rw[zQH hle] at hroom;cases hroom
              omega
             cases hnt:Nat.beq n tt with
             | false=>rw[hnt] at h;cases h
             | true =>
               rw[hnt] at h;simp only[cond_true] at h;have hnt:=zPZ hnt;subst hnt
               have hlong:ob.cs.length < (ob.cs++new).length:=by
                simp only[zQL,hlen];have:0 < mm*(s+1):=Nat.mul_pos (by omega) (by omega);omega
               cases hgr:ob.gr with
               | true =>
                 rw[hgr] at h;simp only[cond_true] at h
                 rcases hO with ⟨g1,rfl,_,_,rfl⟩ | ⟨g1,g2,g3,rfl⟩
                 ·have hc0:ob.cs=[]:=zQ9.1 (by omega);rw[iap];rw[hc0] at h hlong;exact grow [] [] 0 none 0 j H (o8 j ph) (fun _=>false) h .nil rfl (by omega) (by unfold wZ;simp) rfl rfl rfl (fun _ _ _=>rfl) (fun i hi=>by rw[xA,if_neg hi]) (.inr ⟨ob,hl,by rw[hc0];exact hlong,rfl⟩) (fun _ h=>by cases h) (fun _ h=>by cases h)
                 ·have hre:=dJ e2 hpos g1;obtain⟨w1,w2,w3,ws,q1,q2,q3⟩:=hp.real hl hre (kF hs);rw[hgr] at q1;rw[iap];refine grow ob.cs ws n _ _ j (H.put (m j) xH) (o8 j ph) (fun _=>false) h q2 q3 (by omega) ?_ ?_ rfl rfl ?_ (fun i hi=>by rw[xA,if_neg hi]) (.inr ⟨ob,hl,hlong,rfl⟩) (fun _ h=>by cases h) (fun _ h=>by cases h)
                  ·unfold wZ;simp only[hisz,zTR];refine xU q1 (by rw[<-q2.len];omega) ?_;rw[zRI,zQT (by rw[<-q2.len];omega)]
                  ·unfold qLJ;rw[hgr];simp only[cond_true,q1];rw[if_pos (by simp[w2];rfl)]
                  ·intro b hb' hne;exact xZ (hne ob hl hre)
               | false =>
                 rw[hgr] at h;simp only[cond_false] at h
                 rcases hO with ⟨g1,_⟩ | ⟨g1,g2,g3,rfl⟩
                 ·rw[hgr] at g1;cases g1
                 ·have hre:=dJ e2 hpos g1;obtain⟨w1,w2,w3,ws,q1,q2,q3⟩:=hp.real hl hre (kF hs);rw[hgr] at q1;rw[iap];refine grow ob.cs ws n _ _ k H ph (fun i=>i==k) h q2 q3 (by omega) ?_ ?_ rfl rfl (fun _ _ _=>rfl) (fun _ _=>rfl) (.inl (by simp)) (fun i hi=>⟨by simpa using hi,hn,by rw[pW,vE hn hl,zLL];rfl⟩) (fun _ h=>h)
                  ·unfold wZ;simp only[hisz,zTR];refine xU q1 (by rw[<-q2.len];omega) ?_;rw[zRI,zQT (by rw[<-q2.len];omega)]
                  ·rw[hgr];rfl
      ·cases h
     ·cases h
    ·cases h
   ·cases h
  ·cases h
 ·cases h
section
variable {P:Program}{Z:Nat->Prop}{H:IH}{m:Nat->Nat}{ph:PHp}
theorem qKL:∀ (es:List MapEntry),qJ0 (qED es)=some es
 | []=>rfl
 | e::es=>by
   show (match qJ0 (qED es) with
    | some es'=>some ((⟨e.key,e.val,(e.born:Int).toNat⟩:MapEntry)::es')
    | none=>none)=_
   rw[qKL es];rfl
theorem qIH (c:Nat)(es:List MapEntry):mapOf (kQ c es)=some (c,es):=by
 show (match qJ0 (qED es) with
  | some es'=>some ((c:Int).toNat,es')
  | none=>none)=_
 rw[qKL];rfl
theorem qL4:∀ (es:List MapEntry),(qED es).length=3*es.length
 | []=>rfl
 | e::es=>by
   show (qED es).length+3=_;rw[qL4 es,zQJ];omega
theorem qKF (k:Nat):∀ (es:List MapEntry),yB k (qED es)=true
 | []=>rfl
 | e::es=>qKF k es
theorem aT (k c:Nat)(es:List MapEntry):yB k (kQ c es)=true:=qKF k es
theorem Hp.zMP (hp:Hp P Z H (own m ph)){k:Nat}{ob:PO}{o:Obj}(hsp:spec P ob.el=true)(hl:qF2 (H.push o) H.size ob∨MIt P Z (H.push o) (own (fun j=>if j=k then H.size else m j) ((k,ob)::ph)) H.size ob)(hn:aC k ph=true)(hb:H.base<=H.size) :
 Hp P Z (H.push o) (own (fun j=>if j=k then H.size else m j) ((k,ob)::ph)) ∧
  Step Z H (own m ph) Z (H.push o) (own (fun j=>if j=k then H.size else m j) ((k,ob)::ph))∧KR (fun j=>j==k) (own m ph) (own (fun j=>if j=k then H.size else m j) ((k,ob)::ph)):=by
 have hold:∀ j,j≠k->own (fun j=>if j=k then H.size else m j) ((k,ob)::ph) j=own m ph j:=fun j hj=>by
  have:(j==k)=false:=by simpa using hj
  have e:qA j ((k,ob)::ph)=qA j ph:=by
   show cond (j==k) (some ob) (qA j ph)=_;rw[this];rfl
  unfold own;rw[e];simp only[if_neg hj]
 have hnew:own (fun j=>if j=k then H.size else m j) ((k,ob)::ph) k=some (H.size,ob):=wW
 have hkr:KR (fun j=>j==k) (own m ph) (own (fun j=>if j=k then H.size else m j) ((k,ob)::ph)):=fun j b' ob' h=>by
  by_cases hj:j=k
  ·exact .inr (.inr (by simp[hj]))
  ·rw[hold j hj] at h;exact .inl ⟨ob',h,rfl,rfl,rfl⟩
 have hs:(H.push o).size=H.size+1:=rfl
 have hmono:∀ {xs:List PV} {us:List Value},VRL P Z H (own m ph) xs us->yB k xs=true->VRL P Z (H.push o) (own (fun j=>if j=k then H.size else m j) ((k,ob)::ph)) xs us:=fun h hx =>
  h.mono (fun _ h=>h) (by omega) (fun b hz hb=>jV hb) hkr fun j hj=>by
   have e:j=k:=by simpa using hj
   rw[e];exact hx
 refine⟨⟨fun b hz=>by have:=hp.zlt b hz;omega,fun j b o' hj=>?_,fun j j' b b' o o' h1 h2 r1 r2 hne=>?_,hp.gl.mono hp.zlt (fun _ h=>h) fun b hz hb=>jV hb⟩,⟨by omega,rfl,fun _ h=>h,fun b hb hn=>jV hb,fun b h _=>.inl h,fun b ⟨j,o',hj,hr⟩ hb=>?_⟩,hkr⟩
 ·by_cases e:j=k
  ·subst e;rw[hnew] at hj;cases hj;exact .inr ⟨by omega,hb,fun hz=>by have:=hp.zlt _ hz;omega,.inr ⟨hsp,hl⟩⟩
  ·rw[hold j e] at hj
   rcases hp.obj j b o' hj with h | ⟨q1,q2,q3,q4⟩
   ·exact .inl h
   ·exact .inr ⟨by omega,q2,q3,q4.mono (jV q1) fun _ q5=>hmono q5 (vE hn (vX hj).1)⟩
 ·have lt:∀ {i c oc},i≠k->own (fun j=>if j=k then H.size else m j) ((k,ob)::ph) i=some (c,oc)->Go.Idl.real oc->c < H.size:=fun hi h hr=>by
   rw[hold _ hi] at h;rcases hp.obj _ _ _ h with q | q
   ·exact absurd q hr
   ·exact q.1
  by_cases e:j=k
  ·subst e;rw[hnew] at h1;cases h1;have:=lt (Ne.symm hne) h2 r2;omega
  ·by_cases e':j'=k
   ·subst e';rw[hnew] at h2;cases h2;have:=lt hne h1 r1;omega
   ·rw[hold _ e] at h1;rw[hold _ e'] at h2;exact hp.inj j j' b b' o o' h1 h2 r1 r2 hne
 ·by_cases e:j=k
  ·subst e;rw[hnew] at hj;cases hj;omega
  ·rw[hold j e] at hj;exact⟨j,o',hj,hr⟩
theorem Hp.zNY (hp:Hp P Z H (own m ph)){k:Nat}{ob:PO}{o:Obj}{cs:List PV}(hl:qA k ph=some ob)(hsp:spec P ob.el=true)(hgr:ob.gr=false)(hlen:ob.cs.length<=cs.length)
 (hi:qF2 (H.put (m k) o) (m k) { ob with cs:=cs }∨MIt P Z (H.put (m k) o) (own m (xO k { ob with cs:=cs } ph)) (m k) { ob with cs:=cs }) :
 Hp P Z (H.put (m k) o) (own m (xO k { ob with cs:=cs } ph)) ∧
  Step Z H (own m ph) Z (H.put (m k) o) (own m (xO k { ob with cs:=cs } ph))∧∀ p,KR p (own m ph) (own m (xO k { ob with cs:=cs } ph)):=by
 have hk:=qN (m:=m) hl;have hre:Go.Idl.real ob:=fun h=>by rw[hgr] at h;cases h.1
 have hold:∀ j,j≠k->own m (xO k { ob with cs:=cs } ph) j=own m ph j:=fun j hj=>by
  unfold own;rw[qY,if_neg (fun h=>hj h.1)]
 have hnew:own m (xO k { ob with cs:=cs } ph) k=some (m k,{ ob with cs:=cs }):=by
  unfold own;rw[qY,if_pos ⟨rfl,by rw[hl];rfl⟩];rfl
 have hkr:∀ p,KR p (own m ph) (own m (xO k { ob with cs:=cs } ph)):=fun p j b' ob' h=>by
  by_cases hj:j=k
  ·subst hj;rw[hnew] at h;cases h;by_cases he:ob.cs.length=cs.length
   ·exact .inl ⟨ob,hk,he,rfl,rfl⟩
   ·exact .inr (.inl ⟨_,ob,hk,by show ob.cs.length < cs.length;omega,rfl,fun _=>rfl⟩)
  ·rw[hold j hj] at h;exact .inl ⟨ob',h,rfl,rfl,rfl⟩
 obtain⟨w1,w2,w3⟩:=hp.zLJ hl hre;have hg:∀ b,b≠m k->(H.put (m k) o).get b=H.get b:=fun b hb=>xZ hb
 have hmono:∀ {xs:List PV} {us:List Value},VRL P Z H (own m ph) xs us->VRL P Z (H.put (m k) o) (own m (xO k { ob with cs:=cs } ph)) xs us:=fun h =>
  h.mono (p:=fun _=>false) (H:=H) (H':=H.put (m k) o) (fun _ h=>h) (zP0 _) (fun b hz hb=>hg b fun e=>w3 (e ▸ hz)) (hkr _) fun j hj=>by cases hj
 refine⟨⟨fun b hz=>hp.zlt b hz,fun j b o' hj=>?_,fun j j' b b' o o' h1 h2 r1 r2 hne=>?_,hp.gl.mono hp.zlt (fun _ h=>h) fun b hz hb=>hg b fun e=>w3 (e ▸ hz)⟩,⟨zP0 _,rfl,fun _ h=>h,fun b hb hn=>hg b fun e=>hn ⟨k,ob,by rw[e];exact hk,hre⟩,fun b h _=>.inl h,fun b ⟨j,o',hj,hr⟩ hb=>?_⟩,hkr⟩
 ·by_cases e:j=k
  ·subst e;rw[hnew] at hj;cases hj;exact .inr ⟨w1,w2,w3,.inr ⟨hsp,hi⟩⟩
  ·rw[hold j e] at hj
   rcases hp.obj j b o' hj with h | ⟨q1,q2,q3,q4⟩
   ·exact .inl h
   ·by_cases hro:Go.Idl.real o'
    ·exact .inr ⟨q1,q2,q3,q4.mono (hg b (hp.inj j k b (m k) o' ob hj hk hro hre e)) fun _ q5=>hmono q5⟩
    ·by_cases hx:o'.gr=true∧o'.cs=[]
     ·exact .inl hx
     ·exact absurd hx hro
 ·have back:∀ {i c oc},own m (xO k { ob with cs:=cs } ph) i=some (c,oc)->Go.Idl.real oc->∃ oc',own m ph i=some (c,oc')∧Go.Idl.real oc':=fun {i c oc} h hr=>by
   by_cases e:i=k
   ·subst e;rw[hnew] at h;cases h;exact⟨ob,hk,hre⟩
   ·rw[hold _ e] at h;exact⟨oc,h,hr⟩
  obtain⟨o1,e1,f1⟩:=back h1 r1;obtain⟨o2,e2,f2⟩:=back h2 r2;exact hp.inj j j' b b' o1 o2 e1 e2 f1 f2 hne
 ·by_cases e:j=k
  ·subst e;rw[hnew] at hj;cases hj;exact⟨j,ob,hk,hre⟩
  ·rw[hold j e] at hj;exact⟨j,o',hj,hr⟩
theorem Hp.zK3 (hp:Hp P Z H (own m ph)){k:Nat}{ob:PO}{o:Obj}{cs:List PV}(hl:qA k ph=some ob)(hsp:spec P ob.el=true)(hgr:ob.gr=false)(hlen:ob.cs.length<=cs.length)(hc:∀ j,yB j cs=true)
 (hi:qF2 (H.put (m k) o) (m k) { ob with cs:=cs }) :
 Hp P Z (H.put (m k) o) (own m (xO k { ob with cs:=cs } ph)) ∧
  Step Z H (own m ph) Z (H.put (m k) o) (own m (xO k { ob with cs:=cs } ph))∧∀ p,KR p (own m ph) (own m (xO k { ob with cs:=cs } ph)):=hp.zNY hl hsp hgr hlen (.inl hi)
theorem qAO {mv:PV}{v:Value}{k c:Nat}{ob:PO}{es:List MapEntry}(hp:Hp P Z H (own m ph))(hv:VR P Z H (own m ph) mv v)(h:gK P mv ph=some (k,ob,c,es)) :
 qA k ph=some ob∧ob.el=1000000001∧ob.gr=false∧spec P ob.el=true∧v=.map (some (m k))∧H.base<=m k∧ob.cs=kQ c es∧∃ a,H.get (m k)=some (.map a c)∧a.toList=es:=by
 unfold gK at h;split at h
 case h_2=>cases h
 rename_i k';split at h
 case h_2=>cases h
 rename_i ob' hl
 cases hc:(spec P ob'.el&&Nat.beq ob'.el 1000000001) with
 | false=>rw[hc] at h;cases h
 | true =>
   rw[hc] at h;simp only[cond_true] at h;rw[zPY] at hc;have he:ob'.el=1000000001:=zPZ hc.2;split at h
   case h_2=>cases h
   rename_i c' es' hm;cases h
   cases hv with
   | mp _ hh =>
     obtain⟨_,rfl⟩:=hh _ _ (qN hl)
     rcases hp.obj k (m k) ob (qN hl) with q | ⟨x1,x2,x3,x4⟩
     ·have:ob.cs=[]:=q.2;rw[this] at hm;cases hm
     ·rcases x4 with ⟨y,_⟩ | ⟨y1,y2⟩
      ·rw[hc.1] at y;cases y
      ·rcases y2 with (⟨q,_⟩ | ⟨_,hgr,a,clk,z1,z2⟩) | ⟨q,_⟩
       ·rw[he] at q;cases q
       ·have e1:mapOf ob.cs=some (clk,a.toList):=by rw[z2];exact qIH clk a.toList
        rw[e1] at hm;cases hm;exact⟨hl,he,hgr,y1,rfl,x2,z2,a,z1,rfl⟩
       ·rw[he] at q;cases q
theorem qWD {M:Nat->Option (Nat×PO)}{ok b:Bool}{v:Value}:VR P Z H M (q0W ok v b) (q40 ok v b):=by
 unfold q0W q40
 cases ok with
 | false=>exact mD v
 | true =>
   refine .tup rfl fun i x u h1 h2=>?_
   match i,h1,h2 with
   | 0,h1,h2=>simp at h1 h2;subst h1 h2;exact mD v
   | 1,h1,h2=>simp at h1 h2;subst h1 h2;exact jR rfl
theorem qTU {t:TypeId}{mv kx x:PV}{v kv:Value}{ok:Bool}(hp:Hp P Z H (own m ph))(hv:VR P Z H (own m ph) mv v)(hk:VR P Z H (own m ph) kx kv)(h:kU P t mv kx ok ph=some x) :
 ∃ u,qCN P t v kv ok H=some u∧VR P Z H (own m ph) x u:=by
 unfold kU at h;split at h
 case h_2=>cases h
 rename_i kt et k ob c es kv' hu hm hkv;obtain⟨h1,h2,h3,h4,rfl,h6,h7,a,h8,rfl⟩:=qAO hp hv hm;have:=yL hk hkv;subst this;unfold qCN;rw[hu];simp only[h8];split at h
 ·rename_i i hi;rw[hi];simp only;split at h
  ·rename_i e he;cases h;have he2:a[i]?=some e:=by rw[<-zTF];exact he
   rw[he2];exact⟨_,rfl,qWD⟩
  ·cases h
 ·rename_i hi;rw[hi];simp only;split at h
  ·rename_i z hz
   cases hpl:zN z with
   | false=>rw[hpl] at h;cases h
   | true =>
     rw[hpl] at h;cases h;rw[hz];simp only[hpl,if_true];exact⟨_,rfl,qWD⟩
  ·cases h
 ·cases h
theorem q28 {H:IH}{b:Nat}{ob:PO}{a:Array MapEntry}{c:Nat}(h2:ob.el=1000000001)(h3:ob.gr=false):qF2 (H.put b (.map a c)) b { ob with cs:=kQ c a.toList } :=
 .inr ⟨h2,h3,a,c,dN,rfl⟩
theorem kH (c:Nat)(es:List MapEntry):(kQ c es).length=3*es.length+1:=by
 show (qED es).length+1=_;rw[qL4]
theorem qGT {p:Nat->Bool}{t:TypeId}{mv kx x:PV}{v kv xv:Value}{ph':PHp}(hp:Hp P Z H (own m ph))(hv:VR P Z H (own m ph) mv v)(hk:VR P Z H (own m ph) kx kv)(hx:VR P Z H (own m ph) x xv)(h:jT P t mv kx x ph=some ph') :
 Res P Z H m ph p (.tup []) ph' (qIE (xX P t v kv xv H)):=by
 unfold jT at h;split at h
 case h_2=>cases h
 rename_i kt et k ob c es kv' xv' hu hm hkv hxv;obtain⟨h1,h2,h3,h4,rfl,h6,h7,a,h8,rfl⟩:=qAO hp hv hm;have:=yL hk hkv;subst this;have:=yL hx hxv;subst this;have und:VR P Z H (own m ph) (.tup []) undef:=.tup (vs:=#[]) rfl (fun i x v h=>by simp at h)
 cases hnt:zB xv with
 | false=>rw[hnt] at h;cases h
 | true =>
 rw[hnt] at h;simp only[cond_true] at h
 have pre:xX P t (.map (some (m k))) kv xv H=(match wP P kt kv a.toList with
  | some (some i)=>match a[i]? with
    | some e=>if Instr.sameBits 10000 e.key kv then some (H.put (m k) (.map (a.modify i fun e=>{ e with key:=kv,val:=xv }) c)) else none
    | none=>none
  | some none=>some (H.put (m k) (.map (a.push { key:=kv,val:=xv,born:=c }) (c+1)))
  | none=>none):=by
  unfold xX;rw[hu];simp only[h8,hnt,h6,decide_true,zQU,if_true];rfl
 rw[pre];split at h
 ·rename_i i hi;rw[hi];simp only;split at h
  ·rename_i e he;have he2:a[i]?=some e:=by rw[<-zTF];exact he
   rw[he2]
   cases hsb:Instr.sameBits 10000 e.key kv with
   | false=>rw[hsb] at h;cases h
   | true =>
     rw[hsb] at h;cases h;simp only[hsb,if_true];have hcs:kQ c (a.toList.modify i fun e=>{ e with key:=kv,val:=xv })=kQ c (a.modify i fun e=>{ e with key:=kv,val:=xv }).toList:=by rw[zS4]
     rw[hcs];obtain⟨r1,r2,r3⟩:=hp.zK3 (o:=.map (a.modify i fun e=>{ e with key:=kv,val:=xv }) c) h1 h4 h3 (by rw[h7,kH,kH,zQ1,zQ1];first | (rw[zTZ];exact zP0 _) | (rw[zUF];omega)) (fun j=>aT j _ _) (q28 h2 h3);exact⟨undef,_,Z,m,rfl,r1,.tup (vs:=#[]) rfl (fun i x v h=>by simp at h),r2,r3 p⟩
  ·cases h
 ·rename_i hi;rw[hi];simp only;cases h;have hcs:kQ (c+1) (a.toList++[⟨kv,xv,c⟩])=kQ (c+1) (a.push ⟨kv,xv,c⟩).toList:=by rw[Array.toList_push]
  rw[hcs];obtain⟨r1,r2,r3⟩:=hp.zK3 (o:=.map (a.push ⟨kv,xv,c⟩) (c+1)) h1 h4 h3 (by rw[h7,kH,kH,zQ1,zQ1];first | (rw[zTZ];exact zP0 _) | (rw[zUF];omega)) (fun j=>aT j _ _) (q28 h2 h3);exact⟨undef,_,Z,m,rfl,r1,.tup (vs:=#[]) rfl (fun i x v h=>by simp at h),r2,r3 p⟩
 ·cases h
theorem qZP {M:Nat->Option (Nat×PO)}{v:Value}{n:Nat}:VR P Z H M (.tup [ofC v,fvv (.int .i64 n)]) (.tuple #[v,goInt n]):=by
 refine .tup rfl fun i x u h1 h2=>?_
 match i,h1,h2 with
 | 0,h1,h2=>simp at h1 h2;subst h1 h2;exact mD v
 | 1,h1,h2=>simp at h1 h2;subst h1 h2;exact jR rfl
theorem qLQ {p:Nat->Bool}{t:TypeId}{mv kx x:PV}{v kv:Value}{ph':PHp}(hp:Hp P Z H (own m ph))(hv:VR P Z H (own m ph) mv v)(hk:VR P Z H (own m ph) kx kv)(h:kK P t mv kx ph=some (x,ph')) :
 Res P Z H m ph p x ph' (wU P t v kv H):=by
 unfold kK at h;split at h
 case h_2=>cases h
 rename_i kt et k ob c es kv' hu hm hkv;obtain⟨h1,h2,h3,h4,rfl,h6,h7,a,h8,rfl⟩:=qAO hp hv hm;have:=yL hk hkv;subst this;unfold wU;rw[hu];simp only[h8,h6,decide_true,if_true];split at h
 ·rename_i i hi;rw[hi];simp only;split at h
  ·rename_i e he;have he2:a[i]?=some e:=by rw[<-zTF];exact he
   rw[he2];obtain⟨zMQ,h⟩:=yO h;rw[zPY] at zMQ;have hsb:=zMQ.1
   ·cases h;simp only[hsb,if_true];have hcs:kQ c (a.toList.modify i fun e=>{ e with key:=kv })=kQ c (a.modify i fun e=>{ e with key:=kv }).toList:=by rw[zS4]
    rw[hcs];obtain⟨r1,r2,r3⟩:=hp.zK3 (o:=.map (a.modify i fun e=>{ e with key:=kv }) c) h1 h4 h3 (by rw[h7,kH,kH,zQ1,zQ1];first | (rw[zTZ];exact zP0 _) | (rw[zUF];omega)) (fun j=>aT j _ _) (q28 h2 h3);exact⟨_,_,Z,m,rfl,r1,qZP,r2,r3 p⟩
  ·cases h
 ·rename_i hi;rw[hi];simp only;split at h
  ·rename_i z hz;obtain⟨hpl',h⟩:=yO h;rw[zPY] at hpl';have hpl:=hpl'.1
   ·cases h;rw[hz];simp only[hpl,if_true];have hcs:kQ (c+1) (a.toList++[⟨kv,z,c⟩])=kQ (c+1) (a.push ⟨kv,z,c⟩).toList:=by rw[Array.toList_push]
    rw[hcs];obtain⟨r1,r2,r3⟩:=hp.zK3 (o:=.map (a.push ⟨kv,z,c⟩) (c+1)) h1 h4 h3 (by rw[h7,kH,kH,zQ1,zQ1];first | (rw[zTZ];exact zP0 _) | (rw[zUF];omega)) (fun j=>aT j _ _) (q28 h2 h3);exact⟨_,_,Z,m,rfl,r1,qZP,r2,r3 p⟩
  ·cases h
 ·cases h
theorem qMO {k:Nat}{x:PV}{ph':PHp}(hp:Hp P Z H (own m ph))(hb:H.base<=H.size)(hn:aC k ph=true)(h:cZ P k ph=some (x,ph')):Res P Z H m ph (fun j=>j==k) x ph' (dG none H):=by
 obtain⟨hsp,h⟩:spec P 1000000001=true∧_=_:=by
  unfold cZ at h
  cases hc:spec P 1000000001 with
  | false=>rw[hc] at h;cases h
  | true=>rw[hc] at h;exact⟨rfl,h⟩
 obtain⟨rfl,rfl⟩:=fH h;obtain⟨r1,r2,r3⟩:=hp.zMP (k:=k) (ob:=⟨1000000001,false,kQ 0 []⟩) (o:=.map #[] 0) hsp (.inl (.inr ⟨rfl,rfl,#[],0,fE,rfl⟩)) hn hb;exact⟨_,_,Z,_,rfl,r1,.mp rfl fun b ob hM=>by rw[wW] at hM;cases hM;exact⟨rfl,rfl⟩,r2,r3⟩
theorem zCE {M:Nat->Option (Nat×PO)}{k:Nat}{b:Nat}(h:∀ b' ob,M k=some (b',ob)->ob.el=1000000001∧b'=b):VR P Z H M (.mp k) (.map (some b)) :=
 .mp rfl fun b' ob hM=>by
  obtain⟨h1,h2⟩:=h b' ob hM;exact⟨h1,by rw[h2]⟩
theorem q6R {M:Nat->Option (Nat×PO)}(n:Nat):VR P Z H M (iv n) (.int .i64 n):=jR rfl
theorem zE5 {M:Nat->Option (Nat×PO)}{x:PV}{mb since last:Nat}{seen:List Nat}(hx:VR P Z H M x (.map (some mb))):VRL P Z H M (qHM x since last seen) (zB6 mb since last seen):=by
 refine .cons hx (.cons (q6R since) (.cons (q6R last) (.cons ?_ .nil)));refine .agg (by simp) fun i y v h1 h2=>?_
 rw[zQD] at h1;simp only[zR3,zQD] at h2
 cases hs:seen[i]? with
 | none=>rw[hs] at h1;cases h1
 | some n =>
   rw[hs] at h1 h2;cases h1;cases h2;exact q6R n
theorem q75 {k off:Nat}{v:Value}{ob:PO}{mv:PV}{since last:Int}{sn:List PV}(hp:Hp P Z H (own m ph))(hx:VR P Z H (own m ph) (.ref k 4 off) v)(hl:qA k ph=some ob)(h1:spec P ob.el=true)(h2:ob.el=1000000002)
 (hcs:ob.cs=[mv,.f (.v (.int .i64 since)),.f (.v (.int .i64 last)),.agg sn]):v=.pointer (some ⟨m k,off,none⟩)∧ob.gr=false∧H.base<=m k∧∃ mb seen,H.get (m k)=some (.mapIter (some mb) since.toNat (List.toArray seen) last.toNat)∧sn=seen.map iv∧VR P Z H (own m ph) mv (.map (some mb))∧since=(since.toNat:Int)∧last=(last.toNat:Int):=by
 obtain⟨rfl,_⟩:=uN hx hl (by rw[hcs];rfl)
 rcases hp.obj k (m k) ob (qN hl) with q | ⟨x1,x2,x3,x4⟩
 ·rw[q.2] at hcs;cases hcs
 ·rcases x4 with ⟨y,_⟩ | ⟨y1,y2⟩
  ·rw[h1] at y;cases y
  ·rcases y2 with (⟨q,_⟩ | ⟨q,_⟩) | ⟨_,hgr,mb,si,la,seen,x,g1,g2,g3⟩
   ·rw[h2] at q;cases q
   ·rw[h2] at q;cases q
   ·rw[hcs] at g2;simp only[qHM,iv,zQQ,PV.f.injEq,FV.v.injEq,Value.int.injEq,PV.agg.injEq,true_and,and_true] at g2;obtain⟨rfl,rfl,rfl,rfl⟩:=g2;rw[hcs] at g3;obtain⟨_,_,hh,g4,_⟩:=g3.zGP;cases hh;exact⟨rfl,hgr,x2,mb,seen,g1,rfl,g4,rfl,rfl⟩
theorem qXB {x y:PV}{v:Value}(hp:Hp P Z H (own m ph))(hx:VR P Z H (own m ph) x v)(h:qLZ P x ph=some y):∃ u,qEG v H=some u∧VR P Z H (own m ph) y u:=by
 unfold qLZ at h;split at h
 case h_2=>cases h
 rename_i k tt off;split at h
 case h_2=>cases h
 rename_i ob hl
 cases hc:(spec P ob.el&&(Nat.beq ob.el 1000000002&&(Nat.beq tt 4&&Nat.beq off 0))) with
 | false=>rw[hc] at h;cases h
 | true =>
   rw[hc] at h;simp only[zPY] at hc;obtain⟨c1,c2,c3,c4⟩:=hc;have e2:=zPZ c2;have e3:=zPZ c3;have e4:=zPZ c4;subst e3 e4;simp only[cond_true] at h;split at h
   case h_2=>cases h
   rename_i mv since last sn hcs;obtain⟨rfl,hgr,hbs,mb,seen,g1,g2,g3,g4,g5⟩:=q75 hp hx hl c1 e2 hcs;split at h
   case h_2=>cases h
   rename_i j obm c es hm;obtain⟨h1,h2,h3,h4,hv,h6,h7,a,h8,rfl⟩:=qAO hp g3 hm;cases hv
   cases hc2:(Nat.beq c since.toNat&&Nat.ble 1 last.toNat) with
   | false=>rw[hc2] at h;cases h
   | true =>
     rw[hc2] at h;simp only[cond_true] at h;rw[zPY] at hc2;have hcc:=zPZ hc2.1;have hll:1<=last.toNat:=zP8 hc2.2
     obtain⟨l0,hl0⟩:∃ l0,last.toNat=l0+1:=⟨last.toNat - 1,by omega⟩
     rw[hl0] at h g1;split at h
     case h_2=>cases h
     rename_i e he
     cases hpl:zN e.key with
     | false=>rw[hpl] at h;cases h
     | true =>
       rw[hpl] at h;cases h
       have he2:a.find? (·.born==l0)=some e:=by
        have q:a.find? (·.born==l0)=a.toList.find? (·.born==l0):=by obtain⟨l⟩:=a;simp
        rw[q];exact he
       unfold qEG;simp only[g1,h8,hcc,beq_self_eq_true,if_true,he2,hpl];refine⟨_,rfl,.tup rfl fun i x u q1 q2=>?_⟩
       match i,q1,q2 with
       | 0,q1,q2=>simp at q1 q2;subst q1 q2;exact mD e.key
       | 1,q1,q2=>simp at q1 q2;subst q1 q2;exact mD e.val
theorem q0T {ts:Array TypeId}{x y:PV}{v:Value}{S:Option zGU}(hp:Hp P Z H (own m ph))(hx:VR P Z H (own m ph) x v)(hl:q2L P ts x ph=some y->∃ u,S=some (.val u H)∧VR P Z H (own m ph) y u)(hS:∀ w,pM P ts [v] H=some w->S=some w)(h:qD5 P ts x ph=some y):∃ u,S=some (.val u H)∧VR P Z H (own m ph) y u:=by
 unfold qD5 at h;split at h
 case h_2=>exact hl h
 rename_i cs hcs
 cases hm:zCI P ts with
 | false=>rw[hm] at h;cases h
 | true =>
   rw[hm] at h;cases h;unfold tK at hcs;split at hcs
   case h_2=>cases hcs
   rename_i k;split at hcs
   case h_2=>cases hcs
   rename_i ob hlk
   cases hc:(!ob.gr&&(spec P ob.el&&Nat.beq ob.el 1000000001)) with
   | false=>rw[hc] at hcs;cases hcs
   | true =>
     rw[hc] at hcs;cases hcs;rw[zPY,zQX] at hc;obtain⟨zNZ,hc⟩:=hc;rw[zPY] at hc;have he:ob.el=1000000001:=zPZ hc.2
     cases hx with
     | mp _ hh =>
       obtain⟨_,rfl⟩:=hh _ _ (qN hlk)
       have key:∀ a clk,H.get (m k)=some (.map a clk)->ob.cs=kQ clk a.toList->∃ u,S=some (.val u H)∧VR P Z H (own m ph) (fvv (.int .i64 ((ob.cs.length / 3:Nat):Int))) u:=fun a clk z1 z2=>by
        refine⟨goInt a.size,hS _ ?_,?_⟩
        ·unfold zCI at hm;split at hm
         ·rename_i hu;unfold pM;rw[hu];simp only[z1]
         ·cases hm
        ·have:ob.cs.length / 3=a.size:=by rw[z2,kH,zQ1];omega
         rw[this];exact jR rfl
       rcases hp.obj k (m k) ob (qN hlk) with q | ⟨x1,x2,x3,x4⟩
       ·rw[zNZ] at q;cases q.1
       ·rcases x4 with ⟨y,_⟩ | ⟨y1,y2⟩
        ·rw[hc.1] at y;cases y
        ·rcases y2 with (⟨q,_⟩ | ⟨_,hgr,a,clk,z1,z2⟩) | ⟨q,_⟩
         ·rw[he] at q;cases q
         ·exact key a clk z1 z2
         ·rw[he] at q;cases q
end
end Go.Idl
