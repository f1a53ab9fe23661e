/- Operations on values without a heap against the ideal ones: builtins; one operation. Conditions: none. -/
import Derived.Test.YtpnecffgnjijjaaGreatDoorPurA
set_option linter.all false
namespace Go.Idl
variable [Gc]
variable {P:Program}{Z:Nat->Prop}{H:IH}{M:Nat->Option (Nat×PO)}{m:Nat->Nat}{ph:PHp}
theorem bC {o:Oper}{b:Builtin}{args:Array Operand}{ts:Array TypeId}{env:Env}{s:zFH}(h:yE P b ⟨.builtin b,args,ts⟩ (kP env.val args.toList) H=some s):yI P o ⟨.builtin b,args,ts⟩ env H=some s:=by
 have:fG P ⟨.builtin b,args,ts⟩ env H=some s:=h;unfold yI;rw[this]
theorem qMK {o:Oper}{b:Builtin}{args:Array Operand}{ts:Array TypeId}{env:Env}{s:Option zFH}(hn:yE P b ⟨.builtin b,args,ts⟩ (kP env.val args.toList) H=none)(h:kG P o env H=s):yI P o ⟨.builtin b,args,ts⟩ env H=s:=by
 have:fG P ⟨.builtin b,args,ts⟩ env H=none:=hn;unfold yI;rw[this];exact h
theorem q9T (P:Program){v a:Value}(h:pl (ofC v)=some a):a=v:=(yK (P:=P) (Z:=fun _=>False) (H:=H00) (M:=fun _=>none) (qBK v) h).symm
theorem bX (P:Program){env:List PV}{x:Operand}{a:Value}(h:pl (qJ env x)=some a):(qRO env).val x=a:=by
 cases x with
 | tmp t =>
   have h:pl ((zJ env t).getD .unk)=some a:=h;unfold Env.val qRO;rw[qG] at h;simp only[qG,xC,zNC]
   cases he:env[t]? with
   | none=>rw[he] at h;cases h
   | some y=>rw[he] at h;simp only[zO4] at h;simp[erV,h]
 | const v=>exact (q9T P h).symm
 | global g=>cases h
 | func g=>cases h;rfl
theorem qF3:∀ {xs:List PV} {as:List Value},plL xs=some as->∀ x∈xs,∃ a,pl x=some a
 | [],_,_,x,hx=>by cases hx
 | y::xs,as,h,x,hx=>by
   unfold plL at h;split at h
   ·rename_i a ha;split at h
    ·rename_i as' has;rcases zNF.1 hx with rfl | hx
     ·exact⟨a,ha⟩
     ·exact qF3 has x hx
    ·cases h
   ·cases h
theorem qB1 {d:Option Tmp}{b:Builtin}{args:Array Operand}{ts:Array TypeId}{ty:TypeId}{pos:String}{aft:Array Edge}{g:Option (Nat×Bool)}{env:List PV}{zFA:Env}{y:PV}{ph':PHp}(he:VRL P Z H (own m ph) env zFA)
 (hn:yE P b ⟨.builtin b,args,ts⟩ (kP zFA.val args.toList) H=none) (h:vR P b ⟨.builtin b,args,ts⟩ (args.toList.map (qJ env)) env ty ph=some (y,ph')) :
 ph'=ph∧∃ u,yI P ⟨d,.call ⟨.builtin b,args,ts⟩,ty,pos,aft,g⟩ ⟨.builtin b,args,ts⟩ zFA H=some (.val u H)∧VR P Z H (own m ph) y u:=by
 unfold vR at h;split at h
 ·rename_i vs hvs;unfold pp1 at h;split at h
  ·rename_i v hv;cases h;refine⟨rfl,?_⟩
   obtain⟨u,h1,h2⟩:=qML (P:=P) (Z:=Z) (H:=H) (M:=own m ph) (s:=kG P ⟨d,.call ⟨.builtin b,args,ts⟩,ty,pos,aft,g⟩ zFA H) hv fun w H0 hw=>by
    have e:kG P ⟨d,.call ⟨.builtin b,args,ts⟩,ty,pos,aft,g⟩ zFA H=kG P ⟨d,.call ⟨.builtin b,args,ts⟩,ty,pos,aft,g⟩ (qRO env) H:=by
     refine o5 (fun cs b h=>by cases h) fun x hx=>?_
     have hx':x∈args:=by simpa [Op.operands,Call.operands] using hx
     obtain⟨a,ha⟩:=qF3 hvs (qJ env x) (zNO.2 ⟨x,by simpa using hx',rfl⟩);rw[bX P ha];exact yK (qK he x) ha
    rw[e];have e2:∀ H,kG P ⟨d,.call ⟨.builtin b,args,ts⟩,ty,pos,aft,g⟩ (qRO env) H=kG P (cop (.call ⟨.builtin b,args,ts⟩) ty) (qRO env) H:=fun H=>rfl
    rw[e2];exact qTG hw H
   exact⟨u,qMK hn h1,h2⟩
  ·cases h
 ·cases h
theorem qUG {el n:Nat}{cs:List FV}{v:Value}(h:VR P Z H M (.f (.l el n cs)) v):∃ a c,v=.slice a n c:=by
 cases h with
 | f h=>cases h <;> exact⟨_,_,rfl⟩
theorem q43 {d:Option Tmp}{x:Operand}{ts:Array TypeId}{ty:TypeId}{pos:String}{aft:Array Edge}{g:Option (Nat×Bool)}{env:Env}{px y:PV}(hx:VR P Z H (own m ph) px (env.val x))(h:q1H P ts px ph=some y) :
 ∃ u,yI P ⟨d,.call ⟨.builtin .len,#[x],ts⟩,ty,pos,aft,g⟩ ⟨.builtin .len,#[x],ts⟩ env H=some (.val u H)∧VR P Z H (own m ph) y u:=by
 have hb:∀ s,oJ P ts [env.val x] H=s->yE P .len ⟨.builtin .len,#[x],ts⟩ (kP env.val #[x].toList) H=s:=fun s h=>h
 unfold q1H at h;split at h
 ·rename_i t ht;split at h
  ·rename_i el he
   have hsl:∀ a n c,env.val x=.slice a n c->∃ u,yI P ⟨d,.call ⟨.builtin .len,#[x],ts⟩,ty,pos,aft,g⟩ ⟨.builtin .len,#[x],ts⟩ env H=some (.val u H)∧VR P Z H (own m ph) (fvv (.int .i64 (n:Int))) u:=fun a n c hv=>by
    refine⟨goInt n,bC (hb _ ?_),kE rfl⟩;unfold oJ;rw[ht,hv];simp only[zNI,zS he]
   split at h
   ·cases h;obtain⟨a,c,hv⟩:=qUG hx;exact hsl _ _ _ hv
   ·cases h;exact hsl _ _ _ (yK hx rfl)
   ·rename_i k tt o n;split at h
    ·rename_i ob hl;split at h
     ·rename_i s hs
      cases hc:Nat.beq (tt*s) ob.cs.length with
      | false=>rw[hc] at h;cases h
      | true =>
        rw[hc] at h;cases h;obtain⟨hO,h0⟩:=vV hx hl hs (zMZ hc)
        rcases hO with ⟨_,_,_,rfl,hv⟩ | ⟨_,_,_,hv⟩
        ·exact hsl _ _ _ hv
        ·exact hsl _ _ _ hv
     ·cases h
    ·cases h
   ·cases h
  ·rename_i hne;split at h
   ·rename_i n el ha;cases h;refine⟨goInt n,bC (hb _ ?_),kE rfl⟩;unfold oJ;rw[ht];simp only[zNI,qAE ha]
   ·cases h
 ·cases h
theorem qO9 {x:PV}{v:Value}{s n:Nat}{new:List PV}(hp:Hp P Z H (own m ph))(hx:VR P Z H (own m ph) x v)(h:mO P s x ph=some (n,new)) :
 ∃ vs a c,v=.slice a n c∧kX s n H v=some vs∧VRL P Z H (own m ph) new vs∧new.length=n*s:=by
 unfold mO at h;split at h
 ·rename_i el n' cs
  cases hc:Nat.beq (n'*s) cs.length with
  | false=>rw[hc] at h;cases h
  | true =>
    rw[hc] at h;cases h;have hlen:=zMZ hc
    cases hx with
    | f hx =>
      cases hx with
      | nil h0 hsp=>exact⟨[],_,_,rfl,by unfold kX;simp[xZ],by simpa using VRL.nil,by simp⟩
      | @l _ _ _ b o sp c vs hz hb hn hsp hl hcv =>
        refine⟨vs,_,_,rfl,?_,qS1 (by rw[xX hl]) hcv,by simp[hlen]⟩;unfold kX;by_cases h0:n=0
        ·subst h0
         have:vs=[]:=by
          have:=xX hl;rw[<-hlen] at this;exact zN7.1 (by omega)
         subst this;simp[xZ]
        ·rw[if_neg h0];unfold wK;rw[hlen];exact hl
 ·cases h;have:=yK hx rfl;subst this;exact⟨[],_,_,rfl,by unfold kX;simp[xZ],.nil,by simp⟩
 ·rename_i k tt o n';split at h
  ·rename_i ob hl;split at h
   ·rename_i s' hs
    cases hc:(Nat.beq (tt*s') ob.cs.length&&Nat.beq s s') with
    | false=>rw[hc] at h;cases h
    | true =>
      rw[hc] at h;cases h;rw[zMY] at hc;have h1:=zMZ hc.1;have h2:=zMZ hc.2;subst h2;obtain⟨hO,h0⟩:=vV hx hl hs h1
      rcases hO with ⟨g1,rfl,rfl,rfl,rfl⟩ | ⟨g1,g2,g3,rfl⟩
      ·exact⟨[],_,_,rfl,by unfold kX;simp[xZ],by simpa using VRL.nil,by simp⟩
      ·obtain⟨w1,w2,w3,vs,q1,q2,q3⟩:=hp.real hl (bP h1 h0 g1) (xR hs);have hle:(o+n)*s<=tt*s:=zN4 _ g2;rw[zPK] at hle;refine⟨(vs.drop (o*s)).take (n*s),_,_,rfl,?_,(q2.drop _).take _,by simp;omega⟩;unfold kX;by_cases hn0:n=0
       ·subst hn0;simp[xZ]
       ·rw[if_neg hn0];unfold wK;exact xK q1 (by rw[<-q2.len];omega) rfl
   ·cases h
  ·cases h
 ·cases h
theorem qS5 (g:Bool):aZ (cond g zN (0,0))=true:=by cases g <;> rfl
theorem qQ0 {el:TypeId}{i:TypeInfo}{need:Nat}{new:List Value}(hi:P.info? el=some i)(hs:kK P el=true)(hn:need<=1048576)(h1:new.all oneCell=true) :
 (decide (need<=2 ^ 40)&&decide (need*i.bytes<=2 ^ 45)&&new.all oneCell&&((fD P el).map (·.cells.size))==some i.size)=true:=by
 obtain⟨i',q1,q2,q3⟩:=qEI hs;rw[hi] at q1;cases q1;rw[q3,h1];simp only[beq_self_eq_true,zO9,zMY,decide_eq_true_eq];have:need*i.bytes<=1048576*4096:=Nat.mul_le_mul hn q2;omega
theorem qRX {ts:List TypeId}{base x y:PV}{vb vx:Value}{k:Nat}{ph':PHp}(hp:Hp P Z H (own m ph))(hb:H.base<=H.size)(hn:gZ k ph=true)(hbase:VR P Z H (own m ph) base vb)(hx:VR P Z H (own m ph) x vx)(hkx:noK k x=true)(hkb:noK k base=true)
 (h:zW P ts base x k ph=some (y,ph')):Res P Z H m ph (fun j=>j==k) y ph' (uV P ts.toArray [vb,vx] H):=by
 unfold zW at h;split at h
 ·rename_i st xt;split at h
  ·rename_i el el2 he he2;split at h
   ·rename_i s hs;split at h
    ·rename_i mm new hnew;obtain⟨vs,a,c,rfl,hf,hr,hlen⟩:=qO9 hp hx hnew;obtain⟨i,hi,hisz⟩:∃ i,P.info? el=some i∧i.size=s+1:=qO0 hs
     have hnews:qLM P el i (.slice el2) (.slice a mm c) H=some (mm,vs):=by
      unfold qLM;simp only[xZ,qS2,cond_true,hisz,hf,zNE]
     have zJT:zZ k new=true:=by
      unfold mO at hnew;split at hnew
      ·rename_i el3 n3 cs3
       cases hc:Nat.beq (n3*(s+1)) cs3.length with
       | false=>rw[hc] at hnew;cases hnew
       | true =>
         rw[hc] at hnew;cases hnew
         have key:∀ l:List FV,zZ k (l.map PV.f)=true:=fun l=>by
          induction l with
          | nil=>rfl
          | cons a l ih=>simp only[zNH,zZ,noK,ih,zNX]
         exact key _
      ·cases hnew;rfl
      ·split at hnew
       ·rename_i ob hl;split at hnew
        ·rename_i s' hs'
         cases hc:(Nat.beq (_*s') ob.cs.length&&Nat.beq (s+1) s') with
         | false=>rw[hc] at hnew;cases hnew
         | true =>
           rw[hc] at hnew;cases hnew;exact qAV (qB5 (jX hn hl))
        ·cases hnew
       ·cases hnew
      ·cases hnew
     have iap:∀ bs len cap,uV P #[st,xt] [.slice bs len cap,.slice a mm c] H=wD P el i bs len cap H (some (mm,vs)):=fun bs len cap=>by
      unfold uV;simp only[zS he,zS he2,hi,hnews]
     -- it grows into a new block
     have grow:∀ (old:List PV) (ovs:List Value) (n:Nat) (bs:Option Addr) (cap kk:Nat) (H1:IH) (php:PHp) (p:Nat->Bool),oG P el (s+1) old n new mm kk php=some (y,ph')->VRL P Z H (own m ph) old ovs->ovs.all oneCell=true->cap < n+mm->wK i.size n H (.slice bs n cap)=some ovs ->
      qJL el H bs=some H1->H1.size=H.size->H1.base=H.base->(∀ b,b < H.size->(∀ ob0,qA kk ph=some ob0->real ob0->b≠m kk)->H1.get b=H.get b)->(∀ j,j≠kk->qA j php=qA j ph) ->
      (p kk=true∨∃ ob0,qA kk ph=some ob0∧ob0.cs.length < (old++new).length∧ob0.el=el)->(∀ j,p j=true->j=kk∧gZ kk ph=true∧zZ kk (old++new)=true)->(∀ j,p j=true->(j==k)=true) ->
      Res P Z H m ph (fun j=>j==k) y ph' (wD P el i bs n cap H (some (mm,vs))):=by
      intro old ovs n bs cap kk H1 php p hg hro ho1 hcap hfi hki q1 q2 q3 q4 q5 q6 q7;unfold oG at hg
      cases hc:(Nat.ble (n+mm) 1048576&&(kK P el&&(Nat.beq (old.length) (n*(s+1))&&(Nat.beq new.length (mm*(s+1))&&new.all fZ)))) with
      | false=>rw[hc] at hg;cases hg
      | true =>
        rw[hc] at hg;simp only[cond_true] at hg;simp only[zMY] at hc;obtain⟨c1,c2,c3,c4,c5⟩:=hc;obtain⟨rfl,rfl⟩:=vT hg;have l1:=zM9 c1;have l3:=zMZ c3;have l4:=zMZ c4;have hv1:=hr.one c5;obtain⟨r1,r2,r3⟩:=hp.zJQ (p:=p) (k:=kk) (ob:=⟨el,true,old++new⟩) (vs:=ovs++vs) (ph0:=php) q1 q2 q3 (xR hs) (q5.imp id fun ⟨ob0,z1,z2,z3⟩=>⟨ob0,z1,z2,z3,qVO c2⟩) (by simpa using q6) (hro.append hr) (by rw[zQO,ho1,hv1];rfl) hb q4;refine⟨_,_,Z,_,?_,r1,qXQ jK hs (by omega) (by simp only[zNK,l3,l4,zPK]) (fun _=>by omega),r2,fun j b' ob' hM=>?_⟩
        ·unfold wD;simp only[];rw[if_neg (by omega)];unfold qSA;rw[if_pos (qQ0 hi c2 l1 hv1)];simp only[hfi,hki,q1];rfl
        ·rcases r3 j b' ob' hM with h | h | h
         ·exact .inl h
         ·exact .inr (.inl h)
         ·exact .inr (.inr (q7 j h))
     split at h
     ·-- nil
      have:=yK hbase rfl;subst this
      cases h0:Nat.beq mm 0 with
      | true =>
        rw[h0] at h;cases h;have hm0:=zMZ h0;subst hm0
        have hv0:vs=[]:=by
         have:=hr.len;rw[hlen] at this;exact zN7.1 (by omega)
        subst hv0;refine .same ?_ hp hbase;rw[show ([st,xt]:List TypeId).toArray=#[st,xt] from rfl,iap];rfl
      | false =>
        rw[h0] at h;have hm0:mm≠0:=fun e=>by subst e;cases h0
        rw[show ([st,xt]:List TypeId).toArray=#[st,xt] from rfl,iap];exact grow [] [] 0 none 0 k H ph (fun j=>j==k) h .nil rfl (by omega) (by unfold wK;simp) rfl rfl rfl (fun _ _ _=>rfl) (fun _ _=>rfl) (.inl (by simp)) (fun j hj=>⟨by simpa using hj,hn,by simpa using zJT⟩) (fun j hj=>hj)
     ·-- a slice of an object
      rename_i j tt o n;split at h
      ·rename_i ob hl
       cases hc:(Nat.beq ob.el el&&(Nat.beq (tt*(s+1)) ob.cs.length&&Nat.beq o 0)) with
       | false=>rw[hc] at h;cases h
       | true =>
         rw[hc] at h;simp only[cond_true] at h;simp only[zMY] at hc;obtain⟨c1,c2,c3⟩:=hc;have e1:=zMZ c1;have e2:=zMZ c2;have e3:=zMZ c3;subst e1 e3;obtain⟨hO,hpos⟩:=vV hbase hl hs e2;rw[show ([st,xt]:List TypeId).toArray=#[st,xt] from rfl]
         cases h0:Nat.beq mm 0 with
         | true =>
           rw[h0] at h;cases h;have hm0:=zMZ h0;subst hm0
           have hv0:vs=[]:=by
            have:=hr.len;rw[hlen] at this;exact zN7.1 (by omega)
           subst hv0
           rcases hO with ⟨g1,rfl,_,rfl,rfl⟩ | ⟨g1,g2,g3,rfl⟩
           ·refine .same ?_ hp hbase;rw[iap];rfl
           ·refine .same ?_ hp hbase;rw[iap];unfold wD;simp only[];rw[if_pos (by omega)];unfold qLJ;have hsp:(cond ob.gr (some ob.el) none:Option TypeId)=none∨(cond ob.gr (some ob.el) none:Option TypeId)=some ob.el:=by cases ob.gr <;> simp
            simp only[nI hsp,if_true,List.isEmpty_nil,zPL]
         | false =>
           rw[h0] at h;simp only[cond_false] at h;have hm0:mm≠0:=fun e=>by subst e;cases h0
           cases hroom:Nat.ble (n+mm) tt with
           | true =>
             rw[hroom] at h;simp only[cond_true] at h;have hrm:=zM9 hroom
             cases hc2:(Nat.beq new.length (mm*(s+1))&&new.all fZ) with
             | false=>rw[hc2] at h;cases h
             | true =>
               rw[hc2] at h;cases h;rw[zMY] at hc2
               rcases hO with ⟨g1,rfl,_,rfl,rfl⟩ | ⟨g1,g2,g3,rfl⟩
               ·omega
               ·have hre:=bP e2 hpos g1;obtain⟨w1,w2,w3,ws,q1,q2,q3⟩:=hp.real hl hre (xR hs);have hle:(n+mm)*(s+1)<=tt*(s+1):=zN4 _ hrm;rw[zPK] at hle;have hv1:=hr.one hc2.2;obtain⟨r1,r2,r3⟩:=hp.put (cs:=yH ob.cs (n*(s+1)) new) hl hre (xR hs) (cZ (by omega)) (q2.over hr (n*(s+1))) (tT q3 hv1);refine⟨.slice (some ⟨m j,0*(s+1),cond ob.gr (some ob.el) none⟩) (n+mm) (tt - 0),_,Z,m,?_,r1,?_,r2,r3 _⟩
                ·rw[iap];unfold wD;simp only[];rw[if_pos (by omega)];unfold qLJ;have hsp:(cond ob.gr (some ob.el) none:Option TypeId)=none∨(cond ob.gr (some ob.el) none:Option TypeId)=some ob.el:=by cases ob.gr <;> simp
                 simp only[nI hsp,if_true]
                 have hne:vs.isEmpty=false:=by
                  have:=hr.len;rw[hlen] at this
                  cases vs with
                  | nil =>
                    have h9:mm*(s+1)=0:=this;rcases zQN.1 h9 with h9 | h9 <;> omega
                  | cons=>rfl
                 rw[hne];simp only[zOY,if_false]
                 have hst:H.stores (m j) (0*(s+1)+n*i.size) vs=some (H.put (m j) (.cells (overwrite ws (n*(s+1)) vs).toArray ob.el (cond ob.gr zN (0,0)))):=by
                  unfold IH.stores;rw[q1];simp only[hisz,zQE,zNY];rw[if_pos];simp only[qS5,hv1,w2,decide_true,zO9,decide_eq_true_eq,zPN];rw[<-q2.len,<-hr.len];omega
                 rw[hst]
                ·refine .own rfl fun b' ob' hM=>?_
                 have hk:own m (xL j { ob with cs:=yH ob.cs (n*(s+1)) new } ph) j=some (m j,{ ob with cs:=yH ob.cs (n*(s+1)) new }):=by
                  unfold own;rw[zA,if_pos ⟨rfl,by rw[hl];rfl⟩];rfl
                 rw[hk] at hM;cases hM;have hol:(yH ob.cs (n*(s+1)) new).length=ob.cs.length:=cZ (by omega);exact⟨s+1,hs,by omega,by show tt*(s+1)<=(yH ob.cs (n*(s+1)) new).length;omega,fun _=>.inr ⟨g1,by omega,.inl rfl,rfl⟩⟩
           | false =>
             rw[hroom] at h;simp only[cond_false] at h
             have hrm:tt < n+mm:=by
              have:¬ (n+mm<=tt):=fun hle=>by rw[zNL hle] at hroom;cases hroom
              omega
             cases hnt:Nat.beq n tt with
             | false=>rw[hnt] at h;cases h
             | true =>
               rw[hnt] at h;simp only[cond_true] at h;have hnt:=zMZ hnt;subst hnt
               have hlong:ob.cs.length < (ob.cs++new).length:=by
                simp only[zNK,hlen];have:0 < mm*(s+1):=Nat.mul_pos (by omega) (by omega);omega
               cases hgr:ob.gr with
               | true =>
                 rw[hgr] at h;simp only[cond_true] at h
                 rcases hO with ⟨g1,rfl,_,_,rfl⟩ | ⟨g1,g2,g3,rfl⟩
                 ·have hc0:ob.cs=[]:=zN7.1 (by omega);rw[iap];rw[hc0] at h hlong;exact grow [] [] 0 none 0 j H (nN j ph) (fun _=>false) h .nil rfl (by omega) (by unfold wK;simp) rfl rfl rfl (fun _ _ _=>rfl) (fun i hi=>by rw[yZ,if_neg hi]) (.inr ⟨ob,hl,by rw[hc0];exact hlong,rfl⟩) (fun _ h=>by cases h) (fun _ h=>by cases h)
                 ·have hre:=bP e2 hpos g1;obtain⟨w1,w2,w3,ws,q1,q2,q3⟩:=hp.real hl hre (xR hs);rw[hgr] at q1;rw[iap];refine grow ob.cs ws n _ _ j (H.put (m j) xB) (nN j ph) (fun _=>false) h q2 q3 (by omega) ?_ ?_ rfl rfl ?_ (fun i hi=>by rw[yZ,if_neg hi]) (.inr ⟨ob,hl,hlong,rfl⟩) (fun _ h=>by cases h) (fun _ h=>by cases h)
                  ·unfold wK;simp only[hisz,zQE];refine xK q1 (by rw[<-q2.len];omega) ?_;rw[zOH,zNR (by rw[<-q2.len];omega)]
                  ·unfold qJL;rw[hgr];simp only[cond_true,q1];rw[if_pos (by simp[w2];rfl)]
                  ·intro b hb' hne;exact xP (hne ob hl hre)
               | false =>
                 rw[hgr] at h;simp only[cond_false] at h
                 rcases hO with ⟨g1,_⟩ | ⟨g1,g2,g3,rfl⟩
                 ·rw[hgr] at g1;cases g1
                 ·have hre:=bP e2 hpos g1;obtain⟨w1,w2,w3,ws,q1,q2,q3⟩:=hp.real hl hre (xR hs);rw[hgr] at q1;rw[iap];refine grow ob.cs ws n _ _ k H ph (fun i=>i==k) h q2 q3 (by omega) ?_ ?_ rfl rfl (fun _ _ _=>rfl) (fun _ _=>rfl) (.inl (by simp)) (fun i hi=>⟨by simpa using hi,hn,by rw[oP,jX hn hl,zJT];rfl⟩) (fun _ h=>h)
                  ·unfold wK;simp only[hisz,zQE];refine xK q1 (by rw[<-q2.len];omega) ?_;rw[zOH,zNR (by rw[<-q2.len];omega)]
                  ·rw[hgr];rfl
      ·cases h
     ·cases h
    ·cases h
   ·cases h
  ·cases h
 ·cases h
section
variable {P:Program}{Z:Nat->Prop}{H:IH}{m:Nat->Nat}{ph:PHp}
theorem qIL:∀ (es:List MapEntry),qJN (qDK es)=some es
 | []=>rfl
 | e::es=>by
   show (match qJN (qDK es) with
    | some es'=>some ((⟨e.key,e.val,(e.born:Int).toNat⟩:MapEntry)::es')
    | none=>none)=_
   rw[qIL es];rfl
theorem qON (c:Nat)(es:List MapEntry):mapOf (wQ c es)=some (c,es):=by
 show (match qJN (qDK es) with
  | some es'=>some ((c:Int).toNat,es')
  | none=>none)=_
 rw[qIL];rfl
theorem qH3:∀ (es:List MapEntry),(qDK es).length=3*es.length
 | []=>rfl
 | e::es=>by
   show (qDK es).length+3=_;rw[qH3 es,zNZ];omega
theorem qI4 (k:Nat):∀ (es:List MapEntry),zZ k (qDK es)=true
 | []=>rfl
 | e::es=>qI4 k es
theorem qBC (k c:Nat)(es:List MapEntry):zZ k (wQ c es)=true:=qI4 k es
theorem Hp.zIS (hp:Hp P Z H (own m ph)){k:Nat}{ob:PO}{o:Obj}(hsp:spec P ob.el=true)(hl:qDY (H.push o) H.size ob∨MIt P Z (H.push o) (own (fun j=>if j=k then H.size else m j) ((k,ob)::ph)) H.size ob)(hn:gZ k ph=true)(hb:H.base<=H.size) :
 Hp P Z (H.push o) (own (fun j=>if j=k then H.size else m j) ((k,ob)::ph)) ∧
  Step Z H (own m ph) Z (H.push o) (own (fun j=>if j=k then H.size else m j) ((k,ob)::ph))∧KR (fun j=>j==k) (own m ph) (own (fun j=>if j=k then H.size else m j) ((k,ob)::ph)):=by
 have hold:∀ j,j≠k->own (fun j=>if j=k then H.size else m j) ((k,ob)::ph) j=own m ph j:=fun j hj=>by
  have:(j==k)=false:=by simpa using hj
  have e:qA j ((k,ob)::ph)=qA j ph:=by
   show cond (j==k) (some ob) (qA j ph)=_;rw[this];rfl
  unfold own;rw[e];simp only[if_neg hj]
 have hnew:own (fun j=>if j=k then H.size else m j) ((k,ob)::ph) k=some (H.size,ob):=jK
 have hkr:KR (fun j=>j==k) (own m ph) (own (fun j=>if j=k then H.size else m j) ((k,ob)::ph)):=fun j b' ob' h=>by
  by_cases hj:j=k
  ·exact .inr (.inr (by simp[hj]))
  ·rw[hold j hj] at h;exact .inl ⟨ob',h,rfl,rfl,rfl⟩
 have hs:(H.push o).size=H.size+1:=rfl
 have hmono:∀ {xs:List PV} {us:List Value},VRL P Z H (own m ph) xs us->zZ k xs=true->VRL P Z (H.push o) (own (fun j=>if j=k then H.size else m j) ((k,ob)::ph)) xs us:=fun h hx =>
  h.mono (fun _ h=>h) (by omega) (fun b hz hb=>jQ hb) hkr fun j hj=>by
   have e:j=k:=by simpa using hj
   rw[e];exact hx
 refine⟨⟨fun b hz=>by have:=hp.zlt b hz;omega,fun j b o' hj=>?_,fun j j' b b' o o' h1 h2 r1 r2 hne=>?_,hp.gl.mono hp.zlt (fun _ h=>h) fun b hz hb=>jQ hb⟩,⟨by omega,rfl,fun _ h=>h,fun b hb hn=>jQ hb,fun b h _=>.inl h,fun b ⟨j,o',hj,hr⟩ hb=>?_⟩,hkr⟩
 ·by_cases e:j=k
  ·subst e;rw[hnew] at hj;cases hj;exact .inr ⟨by omega,hb,fun hz=>by have:=hp.zlt _ hz;omega,.inr ⟨hsp,hl⟩⟩
  ·rw[hold j e] at hj
   rcases hp.obj j b o' hj with h | ⟨q1,q2,q3,q4⟩
   ·exact .inl h
   ·exact .inr ⟨by omega,q2,q3,q4.mono (jQ q1) fun _ q5=>hmono q5 (jX hn (vL hj).1)⟩
 ·have lt:∀ {i c oc},i≠k->own (fun j=>if j=k then H.size else m j) ((k,ob)::ph) i=some (c,oc)->Go.Idl.real oc->c < H.size:=fun hi h hr=>by
   rw[hold _ hi] at h;rcases hp.obj _ _ _ h with q | q
   ·exact absurd q hr
   ·exact q.1
  by_cases e:j=k
  ·subst e;rw[hnew] at h1;cases h1;have:=lt (Ne.symm hne) h2 r2;omega
  ·by_cases e':j'=k
   ·subst e';rw[hnew] at h2;cases h2;have:=lt hne h1 r1;omega
   ·rw[hold _ e] at h1;rw[hold _ e'] at h2;exact hp.inj j j' b b' o o' h1 h2 r1 r2 hne
 ·by_cases e:j=k
  ·subst e;rw[hnew] at hj;cases hj;omega
  ·rw[hold j e] at hj;exact⟨j,o',hj,hr⟩
theorem Hp.zLS (hp:Hp P Z H (own m ph)){k:Nat}{ob:PO}{o:Obj}{cs:List PV}(hl:qA k ph=some ob)(hsp:spec P ob.el=true)(hgr:ob.gr=false)(hlen:ob.cs.length<=cs.length)
 (hi:qDY (H.put (m k) o) (m k) { ob with cs:=cs }∨MIt P Z (H.put (m k) o) (own m (xL k { ob with cs:=cs } ph)) (m k) { ob with cs:=cs }) :
 Hp P Z (H.put (m k) o) (own m (xL k { ob with cs:=cs } ph)) ∧
  Step Z H (own m ph) Z (H.put (m k) o) (own m (xL k { ob with cs:=cs } ph))∧∀ p,KR p (own m ph) (own m (xL k { ob with cs:=cs } ph)):=by
 have hk:=qM (m:=m) hl;have hre:Go.Idl.real ob:=fun h=>by rw[hgr] at h;cases h.1
 have hold:∀ j,j≠k->own m (xL k { ob with cs:=cs } ph) j=own m ph j:=fun j hj=>by
  unfold own;rw[zA,if_neg (fun h=>hj h.1)]
 have hnew:own m (xL k { ob with cs:=cs } ph) k=some (m k,{ ob with cs:=cs }):=by
  unfold own;rw[zA,if_pos ⟨rfl,by rw[hl];rfl⟩];rfl
 have hkr:∀ p,KR p (own m ph) (own m (xL k { ob with cs:=cs } ph)):=fun p j b' ob' h=>by
  by_cases hj:j=k
  ·subst hj;rw[hnew] at h;cases h;by_cases he:ob.cs.length=cs.length
   ·exact .inl ⟨ob,hk,he,rfl,rfl⟩
   ·exact .inr (.inl ⟨_,ob,hk,by show ob.cs.length < cs.length;omega,rfl,fun _=>rfl⟩)
  ·rw[hold j hj] at h;exact .inl ⟨ob',h,rfl,rfl,rfl⟩
 obtain⟨w1,w2,w3⟩:=hp.zJR hl hre;have hg:∀ b,b≠m k->(H.put (m k) o).get b=H.get b:=fun b hb=>xP hb
 have hmono:∀ {xs:List PV} {us:List Value},VRL P Z H (own m ph) xs us->VRL P Z (H.put (m k) o) (own m (xL k { ob with cs:=cs } ph)) xs us:=fun h =>
  h.mono (p:=fun _=>false) (H:=H) (H':=H.put (m k) o) (fun _ h=>h) (zM0 _) (fun b hz hb=>hg b fun e=>w3 (e ▸ hz)) (hkr _) fun j hj=>by cases hj
 refine⟨⟨fun b hz=>hp.zlt b hz,fun j b o' hj=>?_,fun j j' b b' o o' h1 h2 r1 r2 hne=>?_,hp.gl.mono hp.zlt (fun _ h=>h) fun b hz hb=>hg b fun e=>w3 (e ▸ hz)⟩,⟨zM0 _,rfl,fun _ h=>h,fun b hb hn=>hg b fun e=>hn ⟨k,ob,by rw[e];exact hk,hre⟩,fun b h _=>.inl h,fun b ⟨j,o',hj,hr⟩ hb=>?_⟩,hkr⟩
 ·by_cases e:j=k
  ·subst e;rw[hnew] at hj;cases hj;exact .inr ⟨w1,w2,w3,.inr ⟨hsp,hi⟩⟩
  ·rw[hold j e] at hj
   rcases hp.obj j b o' hj with h | ⟨q1,q2,q3,q4⟩
   ·exact .inl h
   ·by_cases hro:Go.Idl.real o'
    ·exact .inr ⟨q1,q2,q3,q4.mono (hg b (hp.inj j k b (m k) o' ob hj hk hro hre e)) fun _ q5=>hmono q5⟩
    ·by_cases hx:o'.gr=true∧o'.cs=[]
     ·exact .inl hx
     ·exact absurd hx hro
 ·have back:∀ {i c oc},own m (xL k { ob with cs:=cs } ph) i=some (c,oc)->Go.Idl.real oc->∃ oc',own m ph i=some (c,oc')∧Go.Idl.real oc':=fun {i c oc} h hr=>by
   by_cases e:i=k
   ·subst e;rw[hnew] at h;cases h;exact⟨ob,hk,hre⟩
   ·rw[hold _ e] at h;exact⟨oc,h,hr⟩
  obtain⟨o1,e1,f1⟩:=back h1 r1;obtain⟨o2,e2,f2⟩:=back h2 r2;exact hp.inj j j' b b' o1 o2 e1 e2 f1 f2 hne
 ·by_cases e:j=k
  ·subst e;rw[hnew] at hj;cases hj;exact⟨j,ob,hk,hre⟩
  ·rw[hold j e] at hj;exact⟨j,o',hj,hr⟩
theorem Hp.zKB (hp:Hp P Z H (own m ph)){k:Nat}{ob:PO}{o:Obj}{cs:List PV}(hl:qA k ph=some ob)(hsp:spec P ob.el=true)(hgr:ob.gr=false)(hlen:ob.cs.length<=cs.length)(hc:∀ j,zZ j cs=true)
 (hi:qDY (H.put (m k) o) (m k) { ob with cs:=cs }) :
 Hp P Z (H.put (m k) o) (own m (xL k { ob with cs:=cs } ph)) ∧
  Step Z H (own m ph) Z (H.put (m k) o) (own m (xL k { ob with cs:=cs } ph))∧∀ p,KR p (own m ph) (own m (xL k { ob with cs:=cs } ph)):=hp.zLS hl hsp hgr hlen (.inl hi)
theorem qFX {mv:PV}{v:Value}{k c:Nat}{ob:PO}{es:List MapEntry}(hp:Hp P Z H (own m ph))(hv:VR P Z H (own m ph) mv v)(h:rO P mv ph=some (k,ob,c,es)) :
 qA k ph=some ob∧ob.el=1000000001∧ob.gr=false∧spec P ob.el=true∧v=.map (some (m k))∧H.base<=m k∧ob.cs=wQ c es∧∃ a,H.get (m k)=some (.map a c)∧a.toList=es:=by
 unfold rO at h;split at h
 case h_2=>cases h
 rename_i k';split at h
 case h_2=>cases h
 rename_i ob' hl
 cases hc:(spec P ob'.el&&Nat.beq ob'.el 1000000001) with
 | false=>rw[hc] at h;cases h
 | true =>
   rw[hc] at h;simp only[cond_true] at h;rw[zMY] at hc;have he:ob'.el=1000000001:=zMZ hc.2;split at h
   case h_2=>cases h
   rename_i c' es' hm;cases h
   cases hv with
   | mp _ hh =>
     obtain⟨_,rfl⟩:=hh _ _ (qM hl)
     rcases hp.obj k (m k) ob (qM hl) with q | ⟨x1,x2,x3,x4⟩
     ·have:ob.cs=[]:=q.2;rw[this] at hm;cases hm
     ·rcases x4 with ⟨y,_⟩ | ⟨y1,y2⟩
      ·rw[hc.1] at y;cases y
      ·rcases y2 with (⟨q,_⟩ | ⟨_,hgr,a,clk,z1,z2⟩) | ⟨q,_⟩
       ·rw[he] at q;cases q
       ·have e1:mapOf ob.cs=some (clk,a.toList):=by rw[z2];exact qON clk a.toList
        rw[e1] at hm;cases hm;exact⟨hl,he,hgr,y1,rfl,x2,z2,a,z1,rfl⟩
       ·rw[he] at q;cases q
theorem qTE {M:Nat->Option (Nat×PO)}{ok b:Bool}{v:Value}:VR P Z H M (q3W ok v b) (q4P ok v b):=by
 unfold q3W q4P
 cases ok with
 | false=>exact qBK v
 | true =>
   refine .tup rfl fun i x u h1 h2=>?_
   match i,h1,h2 with
   | 0,h1,h2=>simp at h1 h2;subst h1 h2;exact qBK v
   | 1,h1,h2=>simp at h1 h2;subst h1 h2;exact kE rfl
theorem qQ5 {t:TypeId}{mv kx x:PV}{v kv:Value}{ok:Bool}(hp:Hp P Z H (own m ph))(hv:VR P Z H (own m ph) mv v)(hk:VR P Z H (own m ph) kx kv)(h:uL P t mv kx ok ph=some x) :
 ∃ u,qAS P t v kv ok H=some u∧VR P Z H (own m ph) x u:=by
 unfold uL at h;split at h
 case h_2=>cases h
 rename_i kt et k ob c es kv' hu hm hkv;obtain⟨h1,h2,h3,h4,rfl,h6,h7,a,h8,rfl⟩:=qFX hp hv hm;have:=yK hk hkv;subst this;unfold qAS;rw[hu];simp only[h8];split at h
 ·rename_i i hi;rw[hi];simp only;split at h
  ·rename_i e he;cases h;have he2:a[i]?=some e:=by rw[<-zQ4];exact he
   rw[he2];exact⟨_,rfl,qTE⟩
  ·cases h
 ·rename_i hi;rw[hi];simp only;split at h
  ·rename_i z hz
   cases hpl:yF z with
   | false=>rw[hpl] at h;cases h
   | true =>
     rw[hpl] at h;cases h;rw[hz];simp only[hpl,if_true];exact⟨_,rfl,qTE⟩
  ·cases h
 ·cases h
theorem q88 {H:IH}{b:Nat}{ob:PO}{a:Array MapEntry}{c:Nat}(h2:ob.el=1000000001)(h3:ob.gr=false):qDY (H.put b (.map a c)) b { ob with cs:=wQ c a.toList } :=
 .inr ⟨h2,h3,a,c,u7,rfl⟩
theorem gJ (c:Nat)(es:List MapEntry):(wQ c es).length=3*es.length+1:=by
 show (qDK es).length+1=_;rw[qH3]
theorem qHL {p:Nat->Bool}{t:TypeId}{mv kx x:PV}{v kv xv:Value}{ph':PHp}(hp:Hp P Z H (own m ph))(hv:VR P Z H (own m ph) mv v)(hk:VR P Z H (own m ph) kx kv)(hx:VR P Z H (own m ph) x xv)(h:jE P t mv kx x ph=some ph') :
 Res P Z H m ph p (.tup []) ph' (qLS (jM P t v kv xv H)):=by
 unfold jE at h;split at h
 case h_2=>cases h
 rename_i kt et k ob c es kv' xv' hu hm hkv hxv;obtain⟨h1,h2,h3,h4,rfl,h6,h7,a,h8,rfl⟩:=qFX hp hv hm;have:=yK hk hkv;subst this;have:=yK hx hxv;subst this;have und:VR P Z H (own m ph) (.tup []) undef:=.tup (vs:=#[]) rfl (fun i x v h=>by simp at h)
 cases hnt:zI xv with
 | false=>rw[hnt] at h;cases h
 | true =>
 rw[hnt] at h;simp only[cond_true] at h
 have pre:jM P t (.map (some (m k))) kv xv H=(match mP P kt kv a.toList with
  | some (some i)=>match a[i]? with
    | some e=>if Instr.sameBits 10000 e.key kv then some (H.put (m k) (.map (a.modify i fun e=>{ e with key:=kv,val:=xv }) c)) else none
    | none=>none
  | some none=>some (H.put (m k) (.map (a.push { key:=kv,val:=xv,born:=c }) (c+1)))
  | none=>none):=by
  unfold jM;rw[hu];simp only[h8,hnt,h6,decide_true,zNX,if_true];rfl
 rw[pre];split at h
 ·rename_i i hi;rw[hi];simp only;split at h
  ·rename_i e he;have he2:a[i]?=some e:=by rw[<-zQ4];exact he
   rw[he2]
   cases hsb:Instr.sameBits 10000 e.key kv with
   | false=>rw[hsb] at h;cases h
   | true =>
     rw[hsb] at h;cases h;simp only[hsb,if_true];have hcs:wQ c (a.toList.modify i fun e=>{ e with key:=kv,val:=xv })=wQ c (a.modify i fun e=>{ e with key:=kv,val:=xv }).toList:=by rw[Array.toList_modify]
     rw[hcs];obtain⟨r1,r2,r3⟩:=hp.zKB (o:=.map (a.modify i fun e=>{ e with key:=kv,val:=xv }) c) h1 h4 h3 (by rw[h7,gJ,gJ,zN8,zN8];first | (rw[Array.size_modify];exact zM0 _) | (rw[Array.size_push];omega)) (fun j=>qBC j _ _) (q88 h2 h3);exact⟨undef,_,Z,m,rfl,r1,.tup (vs:=#[]) rfl (fun i x v h=>by simp at h),r2,r3 p⟩
  ·cases h
 ·rename_i hi;rw[hi];simp only;cases h;have hcs:wQ (c+1) (a.toList++[⟨kv,xv,c⟩])=wQ (c+1) (a.push ⟨kv,xv,c⟩).toList:=by rw[Array.toList_push]
  rw[hcs];obtain⟨r1,r2,r3⟩:=hp.zKB (o:=.map (a.push ⟨kv,xv,c⟩) (c+1)) h1 h4 h3 (by rw[h7,gJ,gJ,zN8,zN8];first | (rw[Array.size_modify];exact zM0 _) | (rw[Array.size_push];omega)) (fun j=>qBC j _ _) (q88 h2 h3);exact⟨undef,_,Z,m,rfl,r1,.tup (vs:=#[]) rfl (fun i x v h=>by simp at h),r2,r3 p⟩
 ·cases h
theorem qMO {k:Nat}{x:PV}{ph':PHp}(hp:Hp P Z H (own m ph))(hb:H.base<=H.size)(hn:gZ k ph=true)(h:dH P k ph=some (x,ph')):Res P Z H m ph (fun j=>j==k) x ph' (bM none H):=by
 obtain⟨hsp,h⟩:spec P 1000000001=true∧_=_:=by
  unfold dH at h
  cases hc:spec P 1000000001 with
  | false=>rw[hc] at h;cases h
  | true=>rw[hc] at h;exact⟨rfl,h⟩
 obtain⟨rfl,rfl⟩:=vT h;obtain⟨r1,r2,r3⟩:=hp.zIS (k:=k) (ob:=⟨1000000001,false,wQ 0 []⟩) (o:=.map #[] 0) hsp (.inl (.inr ⟨rfl,rfl,#[],0,jR,rfl⟩)) hn hb;exact⟨_,_,Z,_,rfl,r1,.mp rfl fun b ob hM=>by rw[jK] at hM;cases hM;exact⟨rfl,rfl⟩,r2,r3⟩
theorem q33 {M:Nat->Option (Nat×PO)}{k:Nat}{b:Nat}(h:∀ b' ob,M k=some (b',ob)->ob.el=1000000001∧b'=b):VR P Z H M (.mp k) (.map (some b)) :=
 .mp rfl fun b' ob hM=>by
  obtain⟨h1,h2⟩:=h b' ob hM;exact⟨h1,by rw[h2]⟩
theorem q5C {M:Nat->Option (Nat×PO)}(n:Nat):VR P Z H M (iv n) (.int .i64 n):=kE rfl
theorem q7W {M:Nat->Option (Nat×PO)}{x:PV}{mb since last:Nat}{seen:List Nat}(hx:VR P Z H M x (.map (some mb))):VRL P Z H M (qC8 x since last seen) (q9M mb since last seen):=by
 refine .cons hx (.cons (q5C since) (.cons (q5C last) (.cons ?_ .nil)));refine .agg (by simp) fun i y v h1 h2=>?_
 rw[zNC] at h1;simp only[zO3,zNC] at h2
 cases hs:seen[i]? with
 | none=>rw[hs] at h1;cases h1
 | some n =>
   rw[hs] at h1 h2;cases h1;cases h2;exact q5C n
theorem qUJ {t:TypeId}{k:Nat}{x y:PV}{v:Value}{ph':PHp}(hp:Hp P Z H (own m ph))(hb:H.base<=H.size)(hn:gZ k ph=true)(hx:VR P Z H (own m ph) x v)(h:rR P t x k ph=some (y,ph')):Res P Z H m ph (fun j=>j==k) y ph' (rY P t v H):=by
 unfold rR at h;split at h
 ·rename_i s hu hs;have:=yK hx hs;subst this
  cases hc:spec P 1000000000 with
  | false=>rw[hc] at h;cases h
  | true =>
    rw[hc] at h;obtain⟨rfl,rfl⟩:=vT h;obtain⟨r1,r2,r3⟩:=hp.zIS (k:=k) (ob:=⟨1000000000,false,aD s 0⟩) (o:=.stringIter s 0) hc (.inl (.inl ⟨rfl,rfl,s,0,jR,rfl⟩)) hn hb;refine⟨_,_,Z,_,?_,r1,qI6 (b:=H.size) (ob:=⟨1000000000,false,aD s 0⟩) jK (fun h=>by cases h),r2,r3⟩;unfold rY;rw[hu]
 ·rename_i kt et hu;split at h
  case h_2=>cases h
  rename_i j ob c es hm;obtain⟨h1,h2,h3,h4,rfl,h6,h7,a,h8,rfl⟩:=qFX hp hx hm
  have hxm:x=.mp j:=by
   unfold rO at hm;split at hm
   case h_2=>cases hm
   split at hm
   case h_2=>cases hm
   rename_i j' _ ob' _
   cases hc:(spec P ob'.el&&Nat.beq ob'.el 1000000001) with
   | false=>rw[hc] at hm;cases hm
   | true =>
     rw[hc] at hm;simp only[cond_true] at hm;split at hm
     ·cases hm;rfl
     ·cases hm
  subst hxm
  cases hc:(spec P 1000000002&&!(j==k)) with
  | false=>rw[hc] at h;cases h
  | true =>
    rw[hc] at h;obtain⟨rfl,rfl⟩:=vT h;rw[zMY,zNJ] at hc;have hjk:j≠k:=by simpa using hc.2
    have hold:∀ ob1,own (fun i=>if i=k then H.size else m i) ((k,ob1)::ph) j=own m ph j:=fun ob1=>by
     have e:qA j ((k,ob1)::ph)=qA j ph:=by
      show cond (j==k) (some ob1) (qA j ph)=_;rw[hc.2];rfl
     unfold own;rw[e];simp only[if_neg hjk]
    obtain⟨r1,r2,r3⟩:=hp.zIS (k:=k) (ob:=⟨1000000002,false,qC8 (.mp j) c 0 []⟩) (o:=.mapIter (some (m j)) c #[] 0) hc.1 (.inr ⟨rfl,rfl,m j,c,0,[],.mp j,jR,rfl,q7W (q33 fun b' ob' hM=>by
     rw[hold,qM h1] at hM;cases hM;exact⟨h2,rfl⟩)⟩) hn hb
    refine⟨_,_,Z,_,?_,r1,qI6 (b:=H.size) (ob:=⟨1000000002,false,qC8 (.mp j) c 0 []⟩) jK (fun h=>by cases h),r2,r3⟩;unfold rY;rw[hu];simp only[h8]
 ·cases h
theorem q17 {p:Nat->Bool}{x y:PV}{v:Value}{ph':PHp}(hp:Hp P Z H (own m ph))(hx:VR P Z H (own m ph) x v)(h:qKW P x ph=some (y,ph')):Res P Z H m ph p y ph' (qC9 v true H):=by
 unfold qKW at h;split at h
 case h_2=>cases h
 rename_i k tt off;split at h
 case h_2=>cases h
 rename_i ob hl
 cases hc:(spec P ob.el&&(Nat.beq ob.el 1000000000&&(Nat.beq tt 2&&Nat.beq off 0))) with
 | false=>rw[hc] at h;cases h
 | true =>
   rw[hc] at h;simp only[zMY] at hc;obtain⟨c1,c2,c3,c4⟩:=hc;have e2:=zMZ c2;have e3:=zMZ c3;have e4:=zMZ c4;subst e3 e4;simp only[cond_true] at h;split at h
   case h_2=>cases h
   rename_i s pos hcs;obtain⟨rfl,_⟩:=uK hx hl (by rw[hcs];rfl)
   rcases hp.obj k (m k) ob (qM hl) with q | ⟨x1,x2,x3,x4⟩
   ·rw[q.2] at hcs;cases hcs
   ·rcases x4 with ⟨y,_⟩ | ⟨y1,y2⟩
    ·rw[c1] at y;cases y
    ·rcases y2 with (⟨_,hgr,s',pos',z1,z2⟩ | ⟨q,_⟩) | ⟨q,_⟩
     ·rw[hcs] at z2;cases z2;unfold qC9;simp only[z1,x2,decide_true,if_true];have ht:((pos':Int)).toNat=pos':=rfl;rw[ht] at h
      cases hlt:decide (pos' < s.size) with
      | true =>
        rw[hlt] at h;cases h;rw[if_pos (of_decide_eq_true hlt)];obtain⟨r1,r2,r3⟩:=hp.zKB (o:=.stringIter s (pos'+(Utf8.decode s pos').2)) (cs:=aD s (pos'+(Utf8.decode s pos').2)) hl y1 hgr (by rw[hcs];exact zM0 _) (fun j=>rfl) (.inl ⟨e2,hgr,s,_,u7,rfl⟩);refine⟨_,_,Z,m,rfl,r1,.tup rfl fun i x u h1 h2=>?_,r2,r3 p⟩
        match i,h1,h2 with
        | 0,h1,h2=>simp at h1 h2;subst h1 h2;exact kE rfl
        | 1,h1,h2=>simp at h1 h2;subst h1 h2;exact kE rfl
        | 2,h1,h2=>simp at h1 h2;subst h1 h2;exact kE rfl
      | false =>
        rw[hlt] at h;cases h;rw[if_neg (of_decide_eq_false hlt)];refine .same rfl hp (.tup rfl fun i x u h1 h2=>?_)
        match i,h1,h2 with
        | 0,h1,h2=>simp at h1 h2;subst h1 h2;exact kE rfl
     ·rw[e2] at q;cases q
     ·rw[e2] at q;cases q
theorem q0E {ts:Array TypeId}{x y:PV}{v:Value}{S:Option zFH}(hp:Hp P Z H (own m ph))(hx:VR P Z H (own m ph) x v)(hl:q1H P ts x ph=some y->∃ u,S=some (.val u H)∧VR P Z H (own m ph) y u)(hS:∀ w,oJ P ts [v] H=some w->S=some w)(h:qC3 P ts x ph=some y):∃ u,S=some (.val u H)∧VR P Z H (own m ph) y u:=by
 unfold qC3 at h;split at h
 case h_2=>exact hl h
 rename_i cs hcs
 cases hm:zBG P ts with
 | false=>rw[hm] at h;cases h
 | true =>
   rw[hm] at h;cases h;unfold rT at hcs;split at hcs
   case h_2=>cases hcs
   rename_i k;split at hcs
   case h_2=>cases hcs
   rename_i ob hlk
   cases hc:(!ob.gr&&(spec P ob.el&&Nat.beq ob.el 1000000001)) with
   | false=>rw[hc] at hcs;cases hcs
   | true =>
     rw[hc] at hcs;cases hcs;rw[zMY,zNJ] at hc;obtain⟨zLT,hc⟩:=hc;rw[zMY] at hc;have he:ob.el=1000000001:=zMZ hc.2
     cases hx with
     | mp _ hh =>
       obtain⟨_,rfl⟩:=hh _ _ (qM hlk)
       have key:∀ a clk,H.get (m k)=some (.map a clk)->ob.cs=wQ clk a.toList->∃ u,S=some (.val u H)∧VR P Z H (own m ph) (fvv (.int .i64 ((ob.cs.length / 3:Nat):Int))) u:=fun a clk z1 z2=>by
        refine⟨goInt a.size,hS _ ?_,?_⟩
        ·unfold zBG at hm;split at hm
         ·rename_i hu;unfold oJ;rw[hu];simp only[z1]
         ·cases hm
        ·have:ob.cs.length / 3=a.size:=by rw[z2,gJ,zN8];omega
         rw[this];exact kE rfl
       rcases hp.obj k (m k) ob (qM hlk) with q | ⟨x1,x2,x3,x4⟩
       ·rw[zLT] at q;cases q.1
       ·rcases x4 with ⟨y,_⟩ | ⟨y1,y2⟩
        ·rw[hc.1] at y;cases y
        ·rcases y2 with (⟨q,_⟩ | ⟨_,hgr,a,clk,z1,z2⟩) | ⟨q,_⟩
         ·rw[he] at q;cases q
         ·exact key a clk z1 z2
         ·rw[he] at q;cases q
end
end Go.Idl
