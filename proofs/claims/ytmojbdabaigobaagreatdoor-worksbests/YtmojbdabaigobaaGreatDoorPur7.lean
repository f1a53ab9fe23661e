/- Operations on values without a heap against the ideal ones: builtins; one operation. Conditions: none. -/
import Derived.Test.YtmojbdabaigobaaGreatDoorPurA
set_option linter.all false
namespace Go.Idl
variable [Gc]
variable {P:Program}{Z:Nat->Prop}{H:IH}{M:Nat->Option (Nat×PO)}{m:Nat->Nat}{ph:PHp}
theorem bH {o:Oper}{b:Builtin}{args:Array Operand}{ts:Array TypeId}{env:Env}{s:zE7}(h:yG P b ⟨.builtin b,args,ts⟩ (kS env.val args.toList) H=some s):yJ P o ⟨.builtin b,args,ts⟩ env H=some s:=by
 have:fQ P ⟨.builtin b,args,ts⟩ env H=some s:=h;unfold yJ;rw[this]
theorem qLV {o:Oper}{b:Builtin}{args:Array Operand}{ts:Array TypeId}{env:Env}{s:Option zE7}(hn:yG P b ⟨.builtin b,args,ts⟩ (kS env.val args.toList) H=none)(h:kL P o env H=s):yJ P o ⟨.builtin b,args,ts⟩ env H=s:=by
 have:fQ P ⟨.builtin b,args,ts⟩ env H=none:=hn;unfold yJ;rw[this];exact h
theorem zAY (P:Program){v a:Value}(h:pl (ofC v)=some a):a=v:=(yM (P:=P) (Z:=fun _=>False) (H:=H00) (M:=fun _=>none) (qCX v) h).symm
theorem dK (P:Program){env:List PV}{x:Operand}{a:Value}(h:pl (qK env x)=some a):(qRJ env).val x=a:=by
 cases x with
 | tmp t =>
   have h:pl ((zL env t).getD .unk)=some a:=h;unfold Env.val qRJ;rw[qF] at h;simp only[qF,xD,zOX]
   cases he:env[t]? with
   | none=>rw[he] at h;cases h
   | some y=>rw[he] at h;simp only[zQL] at h;simp[erV,h]
 | const v=>exact (zAY P h).symm
 | global g=>cases h
 | func g=>cases h;rfl
theorem qG9:∀ {xs:List PV} {as:List Value},plL xs=some as->∀ x∈xs,∃ a,pl x=some a
 | [],_,_,x,hx=>by cases hx
 | y::xs,as,h,x,hx=>by
   unfold plL at h;split at h
   ·rename_i a ha;split at h
    ·rename_i as' has;rcases zO1.1 hx with rfl | hx
     ·exact⟨a,ha⟩
     ·exact qG9 has x hx
    ·cases h
   ·cases h
theorem qCQ {d:Option Tmp}{b:Builtin}{args:Array Operand}{ts:Array TypeId}{ty:TypeId}{pos:String}{aft:Array Edge}{g:Option (Nat×Bool)}{env:List PV}{zEZ:Env}{y:PV}{ph':PHp}(he:VRL P Z H (own m ph) env zEZ)
 (hn:yG P b ⟨.builtin b,args,ts⟩ (kS zEZ.val args.toList) H=none) (h:vS P b ⟨.builtin b,args,ts⟩ (args.toList.map (qK env)) env ty ph=some (y,ph')) :
 ph'=ph∧∃ u,yJ P ⟨d,.call ⟨.builtin b,args,ts⟩,ty,pos,aft,g⟩ ⟨.builtin b,args,ts⟩ zEZ H=some (.val u H)∧VR P Z H (own m ph) y u:=by
 unfold vS at h;split at h
 ·rename_i vs hvs;unfold pp1 at h;split at h
  ·rename_i v hv;cases h;refine⟨rfl,?_⟩
   obtain⟨u,h1,h2⟩:=qM2 (P:=P) (Z:=Z) (H:=H) (M:=own m ph) (s:=kL P ⟨d,.call ⟨.builtin b,args,ts⟩,ty,pos,aft,g⟩ zEZ H) hv fun w H0 hw=>by
    have e:kL P ⟨d,.call ⟨.builtin b,args,ts⟩,ty,pos,aft,g⟩ zEZ H=kL P ⟨d,.call ⟨.builtin b,args,ts⟩,ty,pos,aft,g⟩ (qRJ env) H:=by
     refine rG (fun cs b h=>by cases h) fun x hx=>?_
     have hx':x∈args:=by simpa [Op.operands,Call.operands] using hx
     obtain⟨a,ha⟩:=qG9 hvs (qK env x) (zO6.2 ⟨x,by simpa using hx',rfl⟩);rw[dK P ha];exact yM (qM he x) ha
    rw[e];have e2:∀ H,kL P ⟨d,.call ⟨.builtin b,args,ts⟩,ty,pos,aft,g⟩ (qRJ env) H=kL P (cop (.call ⟨.builtin b,args,ts⟩) ty) (qRJ env) H:=fun H=>rfl
    rw[e2];exact qVB hw H
   exact⟨u,qLV hn h1,h2⟩
  ·cases h
 ·cases h
theorem qUV {el n:Nat}{cs:List FV}{v:Value}(h:VR P Z H M (.f (.l el n cs)) v):∃ a c,v=.slice a n c:=by
 cases h with
 | f h=>cases h <;> exact⟨_,_,rfl⟩
theorem q52 {d:Option Tmp}{x:Operand}{ts:Array TypeId}{ty:TypeId}{pos:String}{aft:Array Edge}{g:Option (Nat×Bool)}{env:Env}{px y:PV}(hx:VR P Z H (own m ph) px (env.val x))(h:q2G P ts px ph=some y) :
 ∃ u,yJ P ⟨d,.call ⟨.builtin .len,#[x],ts⟩,ty,pos,aft,g⟩ ⟨.builtin .len,#[x],ts⟩ env H=some (.val u H)∧VR P Z H (own m ph) y u:=by
 have hb:∀ s,nL P ts [env.val x] H=s->yG P .len ⟨.builtin .len,#[x],ts⟩ (kS env.val #[x].toList) H=s:=fun s h=>h
 unfold q2G at h;split at h
 ·rename_i t ht;split at h
  ·rename_i el he
   have hsl:∀ a n c,env.val x=.slice a n c->∃ u,yJ P ⟨d,.call ⟨.builtin .len,#[x],ts⟩,ty,pos,aft,g⟩ ⟨.builtin .len,#[x],ts⟩ env H=some (.val u H)∧VR P Z H (own m ph) (fvv (.int .i64 (n:Int))) u:=fun a n c hv=>by
    refine⟨goInt n,bH (hb _ ?_),vR rfl⟩;unfold nL;rw[ht,hv];simp only[zO2,zU he]
   split at h
   ·cases h;obtain⟨a,c,hv⟩:=qUV hx;exact hsl _ _ _ hv
   ·cases h;exact hsl _ _ _ (yM hx rfl)
   ·rename_i k tt o n;split at h
    ·rename_i ob hl;split at h
     ·rename_i s hs
      cases hc:Nat.beq (tt*s) ob.cs.length with
      | false=>rw[hc] at h;cases h
      | true =>
        rw[hc] at h;cases h;obtain⟨hO,h0⟩:=wD hx hl hs (zOH hc)
        rcases hO with ⟨_,_,_,rfl,hv⟩ | ⟨_,_,_,hv⟩
        ·exact hsl _ _ _ hv
        ·exact hsl _ _ _ hv
     ·cases h
    ·cases h
   ·cases h
  ·rename_i hne;split at h
   ·rename_i n el ha;cases h;refine⟨goInt n,bH (hb _ ?_),vR rfl⟩;unfold nL;rw[ht];simp only[zO2,tX ha]
   ·cases h
 ·cases h
theorem qP4 {x:PV}{v:Value}{s n:Nat}{new:List PV}(hp:Hp P Z H (own m ph))(hx:VR P Z H (own m ph) x v)(h:mR P s x ph=some (n,new)) :
 ∃ vs a c,v=.slice a n c∧kX s n H v=some vs∧VRL P Z H (own m ph) new vs∧new.length=n*s:=by
 unfold mR at h;split at h
 ·rename_i el n' cs
  cases hc:Nat.beq (n'*s) cs.length with
  | false=>rw[hc] at h;cases h
  | true =>
    rw[hc] at h;cases h;have hlen:=zOH hc
    cases hx with
    | f hx =>
      cases hx with
      | nil h0 hsp=>exact⟨[],_,_,rfl,by unfold kX;simp[kH],by simpa using VRL.nil,by simp⟩
      | @l _ _ _ b o sp c vs hz hb hn hsp hl hcv =>
        refine⟨vs,_,_,rfl,?_,qVX (by rw[kE hl]) hcv,by simp[hlen]⟩;unfold kX;by_cases h0:n=0
        ·subst h0
         have:vs=[]:=by
          have:=kE hl;rw[<-hlen] at this;exact zPT.1 (by omega)
         subst this;simp[kH]
        ·rw[if_neg h0];unfold wT;rw[hlen];exact hl
 ·cases h;have:=yM hx rfl;subst this;exact⟨[],_,_,rfl,by unfold kX;simp[kH],.nil,by simp⟩
 ·rename_i k tt o n';split at h
  ·rename_i ob hl;split at h
   ·rename_i s' hs
    cases hc:(Nat.beq (tt*s') ob.cs.length&&Nat.beq s s') with
    | false=>rw[hc] at h;cases h
    | true =>
      rw[hc] at h;cases h;rw[zOG] at hc;have h1:=zOH hc.1;have h2:=zOH hc.2;subst h2;obtain⟨hO,h0⟩:=wD hx hl hs h1
      rcases hO with ⟨g1,rfl,rfl,rfl,rfl⟩ | ⟨g1,g2,g3,rfl⟩
      ·exact⟨[],_,_,rfl,by unfold kX;simp[kH],by simpa using VRL.nil,by simp⟩
      ·obtain⟨w1,w2,w3,vs,q1,q2,q3⟩:=hp.real hl (dF h1 h0 g1) (xX hs);have hle:(o+n)*s<=tt*s:=zPO _ g2;rw[zQ2] at hle;refine⟨(vs.drop (o*s)).take (n*s),_,_,rfl,?_,(q2.drop _).take _,by simp;omega⟩;unfold kX;by_cases hn0:n=0
       ·subst hn0;simp[kH]
       ·rw[if_neg hn0];unfold wT;exact xO q1 (by rw[<-q2.len];omega) rfl
   ·cases h
  ·cases h
 ·cases h
theorem qUD (g:Bool):aH (cond g zO (0,0))=true:=by cases g <;> rfl
theorem qRU {el:TypeId}{i:TypeInfo}{need:Nat}{new:List Value}(hi:P.info? el=some i)(hs:kT P el=true)(hn:need<=1048576)(h1:new.all oneCell=true) :
 (decide (need<=2 ^ 40)&&decide (need*i.bytes<=2 ^ 45)&&new.all oneCell&&((gQ P el).map (·.cells.size))==some i.size)=true:=by
 obtain⟨i',q1,q2,q3⟩:=qDT hs;rw[hi] at q1;cases q1;rw[q3,h1];simp only[beq_self_eq_true,zQS,zOG,decide_eq_true_eq];have:need*i.bytes<=1048576*4096:=Nat.mul_le_mul hn q2;omega
theorem qSD {ts:List TypeId}{base x y:PV}{vb vx:Value}{k:Nat}{ph':PHp}(hp:Hp P Z H (own m ph))(hb:H.base<=H.size)(hn:fT k ph=true)(hbase:VR P Z H (own m ph) base vb)(hx:VR P Z H (own m ph) x vx)(hkx:noK k x=true)(hkb:noK k base=true)
 (h:zX P ts base x k ph=some (y,ph')):Res P Z H m ph (fun j=>j==k) y ph' (uV P ts.toArray [vb,vx] H):=by
 unfold zX at h;split at h
 ·rename_i st xt;split at h
  ·rename_i el el2 he he2;split at h
   ·rename_i s hs;split at h
    ·rename_i mm new hnew;obtain⟨vs,a,c,rfl,hf,hr,hlen⟩:=qP4 hp hx hnew;obtain⟨i,hi,hisz⟩:∃ i,P.info? el=some i∧i.size=s+1:=qOQ hs
     have hnews:qLI P el i (.slice el2) (.slice a mm c) H=some (mm,vs):=by
      unfold qLI;simp only[kH,qVD,cond_true,hisz,hf,zOW]
     have zJR:yA k new=true:=by
      unfold mR at hnew;split at hnew
      ·rename_i el3 n3 cs3
       cases hc:Nat.beq (n3*(s+1)) cs3.length with
       | false=>rw[hc] at hnew;cases hnew
       | true =>
         rw[hc] at hnew;cases hnew
         have key:∀ l:List FV,yA k (l.map PV.f)=true:=fun l=>by
          induction l with
          | nil=>rfl
          | cons a l ih=>simp only[zOZ,yA,noK,ih,zPG]
         exact key _
      ·cases hnew;rfl
      ·split at hnew
       ·rename_i ob hl;split at hnew
        ·rename_i s' hs'
         cases hc:(Nat.beq (_*s') ob.cs.length&&Nat.beq (s+1) s') with
         | false=>rw[hc] at hnew;cases hnew
         | true =>
           rw[hc] at hnew;cases hnew;exact qAP (qB6 (jW hn hl))
        ·cases hnew
       ·cases hnew
      ·cases hnew
     have iap:∀ bs len cap,uV P #[st,xt] [.slice bs len cap,.slice a mm c] H=wC P el i bs len cap H (some (mm,vs)):=fun bs len cap=>by
      unfold uV;simp only[zU he,zU he2,hi,hnews]
     -- it grows into a new block
     have grow:∀ (old:List PV) (ovs:List Value) (n:Nat) (bs:Option Addr) (cap kk:Nat) (H1:IH) (php:PHp) (p:Nat->Bool),mY P el (s+1) old n new mm kk php=some (y,ph')->VRL P Z H (own m ph) old ovs->ovs.all oneCell=true->cap < n+mm->wT i.size n H (.slice bs n cap)=some ovs ->
      qKN el H bs=some H1->H1.size=H.size->H1.base=H.base->(∀ b,b < H.size->(∀ ob0,qA kk ph=some ob0->real ob0->b≠m kk)->H1.get b=H.get b)->(∀ j,j≠kk->qA j php=qA j ph) ->
      (p kk=true∨∃ ob0,qA kk ph=some ob0∧ob0.cs.length < (old++new).length∧ob0.el=el)->(∀ j,p j=true->j=kk∧fT kk ph=true∧yA kk (old++new)=true)->(∀ j,p j=true->(j==k)=true) ->
      Res P Z H m ph (fun j=>j==k) y ph' (wC P el i bs n cap H (some (mm,vs))):=by
      intro old ovs n bs cap kk H1 php p hg hro ho1 hcap hfi hki q1 q2 q3 q4 q5 q6 q7;unfold mY at hg
      cases hc:(Nat.ble (n+mm) 1048576&&(kT P el&&(Nat.beq (old.length) (n*(s+1))&&(Nat.beq new.length (mm*(s+1))&&new.all fU)))) with
      | false=>rw[hc] at hg;cases hg
      | true =>
        rw[hc] at hg;simp only[cond_true] at hg;simp only[zOG] at hc;obtain⟨c1,c2,c3,c4,c5⟩:=hc;obtain⟨rfl,rfl⟩:=fE hg;have l1:=zOQ c1;have l3:=zOH c3;have l4:=zOH c4;have hv1:=hr.one c5;obtain⟨r1,r2,r3⟩:=hp.zJO (p:=p) (k:=kk) (ob:=⟨el,true,old++new⟩) (vs:=ovs++vs) (ph0:=php) q1 q2 q3 (xX hs) (q5.imp id fun ⟨ob0,z1,z2,z3⟩=>⟨ob0,z1,z2,z3,qVJ c2⟩) (by simpa using q6) (hro.append hr) (by rw[zR5,ho1,hv1];rfl) hb q4;refine⟨_,_,Z,_,?_,r1,qXL wF hs (by omega) (by simp only[zO0,l3,l4,zQ2]) (fun _=>by omega),r2,fun j b' ob' hM=>?_⟩
        ·unfold wC;simp only[];rw[if_neg (by omega)];unfold qSS;rw[if_pos (qRU hi c2 l1 hv1)];simp only[hfi,hki,q1];rfl
        ·rcases r3 j b' ob' hM with h | h | h
         ·exact .inl h
         ·exact .inr (.inl h)
         ·exact .inr (.inr (q7 j h))
     split at h
     ·-- nil
      have:=yM hbase rfl;subst this
      cases h0:Nat.beq mm 0 with
      | true =>
        rw[h0] at h;cases h;have hm0:=zOH h0;subst hm0
        have hv0:vs=[]:=by
         have:=hr.len;rw[hlen] at this;exact zPT.1 (by omega)
        subst hv0;refine .same ?_ hp hbase;rw[show ([st,xt]:List TypeId).toArray=#[st,xt] from rfl,iap];rfl
      | false =>
        rw[h0] at h;have hm0:mm≠0:=fun e=>by subst e;cases h0
        rw[show ([st,xt]:List TypeId).toArray=#[st,xt] from rfl,iap];exact grow [] [] 0 none 0 k H ph (fun j=>j==k) h .nil rfl (by omega) (by unfold wT;simp) rfl rfl rfl (fun _ _ _=>rfl) (fun _ _=>rfl) (.inl (by simp)) (fun j hj=>⟨by simpa using hj,hn,by simpa using zJR⟩) (fun j hj=>hj)
     ·-- a slice of an object
      rename_i j tt o n;split at h
      ·rename_i ob hl
       cases hc:(Nat.beq ob.el el&&(Nat.beq (tt*(s+1)) ob.cs.length&&Nat.beq o 0)) with
       | false=>rw[hc] at h;cases h
       | true =>
         rw[hc] at h;simp only[cond_true] at h;simp only[zOG] at hc;obtain⟨c1,c2,c3⟩:=hc;have e1:=zOH c1;have e2:=zOH c2;have e3:=zOH c3;subst e1 e3;obtain⟨hO,hpos⟩:=wD hbase hl hs e2;rw[show ([st,xt]:List TypeId).toArray=#[st,xt] from rfl]
         cases h0:Nat.beq mm 0 with
         | true =>
           rw[h0] at h;cases h;have hm0:=zOH h0;subst hm0
           have hv0:vs=[]:=by
            have:=hr.len;rw[hlen] at this;exact zPT.1 (by omega)
           subst hv0
           rcases hO with ⟨g1,rfl,_,rfl,rfl⟩ | ⟨g1,g2,g3,rfl⟩
           ·refine .same ?_ hp hbase;rw[iap];rfl
           ·refine .same ?_ hp hbase;rw[iap];unfold wC;simp only[];rw[if_pos (by omega)];unfold qMS;have hsp:(cond ob.gr (some ob.el) none:Option TypeId)=none∨(cond ob.gr (some ob.el) none:Option TypeId)=some ob.el:=by cases ob.gr <;> simp
            simp only[oU hsp,if_true,List.isEmpty_nil,zQ3]
         | false =>
           rw[h0] at h;simp only[cond_false] at h;have hm0:mm≠0:=fun e=>by subst e;cases h0
           cases hroom:Nat.ble (n+mm) tt with
           | true =>
             rw[hroom] at h;simp only[cond_true] at h;have hrm:=zOQ hroom
             cases hc2:(Nat.beq new.length (mm*(s+1))&&new.all fU) with
             | false=>rw[hc2] at h;cases h
             | true =>
               rw[hc2] at h;cases h;rw[zOG] at hc2
               rcases hO with ⟨g1,rfl,_,rfl,rfl⟩ | ⟨g1,g2,g3,rfl⟩
               ·omega
               ·have hre:=dF e2 hpos g1;obtain⟨w1,w2,w3,ws,q1,q2,q3⟩:=hp.real hl hre (xX hs);have hle:(n+mm)*(s+1)<=tt*(s+1):=zPO _ hrm;rw[zQ2] at hle;have hv1:=hr.one hc2.2;obtain⟨r1,r2,r3⟩:=hp.put (cs:=yI ob.cs (n*(s+1)) new) hl hre (xX hs) (bW (by omega)) (q2.over hr (n*(s+1))) (qAL q3 hv1);refine⟨.slice (some ⟨m j,0*(s+1),cond ob.gr (some ob.el) none⟩) (n+mm) (tt - 0),_,Z,m,?_,r1,?_,r2,r3 _⟩
                ·rw[iap];unfold wC;simp only[];rw[if_pos (by omega)];unfold qMS;have hsp:(cond ob.gr (some ob.el) none:Option TypeId)=none∨(cond ob.gr (some ob.el) none:Option TypeId)=some ob.el:=by cases ob.gr <;> simp
                 simp only[oU hsp,if_true]
                 have hne:vs.isEmpty=false:=by
                  have:=hr.len;rw[hlen] at this
                  cases vs with
                  | nil =>
                    have h9:mm*(s+1)=0:=this;rcases zR4.1 h9 with h9 | h9 <;> omega
                  | cons=>rfl
                 rw[hne];simp only[zQX,if_false]
                 have hst:H.stores (m j) (0*(s+1)+n*i.size) vs=some (H.put (m j) (.cells (overwrite ws (n*(s+1)) vs).toArray ob.el (cond ob.gr zO (0,0)))):=by
                  unfold IH.stores;rw[q1];simp only[hisz,zRV,zPF];rw[if_pos];simp only[qUD,hv1,w2,decide_true,zQS,decide_eq_true_eq,zQ5];rw[<-q2.len,<-hr.len];omega
                 rw[hst]
                ·refine .own rfl fun b' ob' hM=>?_
                 have hk:own m (xW j { ob with cs:=yI ob.cs (n*(s+1)) new } ph) j=some (m j,{ ob with cs:=yI ob.cs (n*(s+1)) new }):=by
                  unfold own;rw[zD,if_pos ⟨rfl,by rw[hl];rfl⟩];rfl
                 rw[hk] at hM;cases hM;have hol:(yI ob.cs (n*(s+1)) new).length=ob.cs.length:=bW (by omega);exact⟨s+1,hs,by omega,by show tt*(s+1)<=(yI ob.cs (n*(s+1)) new).length;omega,fun _=>.inr ⟨g1,by omega,.inl rfl,rfl⟩⟩
           | false =>
             rw[hroom] at h;simp only[cond_false] at h
             have hrm:tt < n+mm:=by
              have:¬ (n+mm<=tt):=fun hle=>by rw[zOV hle] at hroom;cases hroom
              omega
             cases hnt:Nat.beq n tt with
             | false=>rw[hnt] at h;cases h
             | true =>
               rw[hnt] at h;simp only[cond_true] at h;have hnt:=zOH hnt;subst hnt
               have hlong:ob.cs.length < (ob.cs++new).length:=by
                simp only[zO0,hlen];have:0 < mm*(s+1):=Nat.mul_pos (by omega) (by omega);omega
               cases hgr:ob.gr with
               | true =>
                 rw[hgr] at h;simp only[cond_true] at h
                 rcases hO with ⟨g1,rfl,_,_,rfl⟩ | ⟨g1,g2,g3,rfl⟩
                 ·have hc0:ob.cs=[]:=zPT.1 (by omega);rw[iap];rw[hc0] at h hlong;exact grow [] [] 0 none 0 j H (nR j ph) (fun _=>false) h .nil rfl (by omega) (by unfold wT;simp) rfl rfl rfl (fun _ _ _=>rfl) (fun i hi=>by rw[yZ,if_neg hi]) (.inr ⟨ob,hl,by rw[hc0];exact hlong,rfl⟩) (fun _ h=>by cases h) (fun _ h=>by cases h)
                 ·have hre:=dF e2 hpos g1;obtain⟨w1,w2,w3,ws,q1,q2,q3⟩:=hp.real hl hre (xX hs);rw[hgr] at q1;rw[iap];refine grow ob.cs ws n _ _ j (H.put (m j) xE) (nR j ph) (fun _=>false) h q2 q3 (by omega) ?_ ?_ rfl rfl ?_ (fun i hi=>by rw[yZ,if_neg hi]) (.inr ⟨ob,hl,hlong,rfl⟩) (fun _ h=>by cases h) (fun _ h=>by cases h)
                  ·unfold wT;simp only[hisz,zRV];refine xO q1 (by rw[<-q2.len];omega) ?_;rw[zP1,zO5 (by rw[<-q2.len];omega)]
                  ·unfold qKN;rw[hgr];simp only[cond_true,q1];rw[if_pos (by simp[w2];rfl)]
                  ·intro b hb' hne;exact xP (hne ob hl hre)
               | false =>
                 rw[hgr] at h;simp only[cond_false] at h
                 rcases hO with ⟨g1,_⟩ | ⟨g1,g2,g3,rfl⟩
                 ·rw[hgr] at g1;cases g1
                 ·have hre:=dF e2 hpos g1;obtain⟨w1,w2,w3,ws,q1,q2,q3⟩:=hp.real hl hre (xX hs);rw[hgr] at q1;rw[iap];refine grow ob.cs ws n _ _ k H ph (fun i=>i==k) h q2 q3 (by omega) ?_ ?_ rfl rfl (fun _ _ _=>rfl) (fun _ _=>rfl) (.inl (by simp)) (fun i hi=>⟨by simpa using hi,hn,by rw[nH,jW hn hl,zJR];rfl⟩) (fun _ h=>h)
                  ·unfold wT;simp only[hisz,zRV];refine xO q1 (by rw[<-q2.len];omega) ?_;rw[zP1,zO5 (by rw[<-q2.len];omega)]
                  ·rw[hgr];rfl
      ·cases h
     ·cases h
    ·cases h
   ·cases h
  ·cases h
 ·cases h
section
variable {P:Program}{Z:Nat->Prop}{H:IH}{m:Nat->Nat}{ph:PHp}
theorem qI1:∀ (es:List MapEntry),qI5 (qDD es)=some es
 | []=>rfl
 | e::es=>by
   show (match qI5 (qDD es) with
    | some es'=>some ((⟨e.key,e.val,(e.born:Int).toNat⟩:MapEntry)::es')
    | none=>none)=_
   rw[qI1 es];rfl
theorem qQP (c:Nat)(es:List MapEntry):mapOf (wU c es)=some (c,es):=by
 show (match qI5 (qDD es) with
  | some es'=>some ((c:Int).toNat,es')
  | none=>none)=_
 rw[qI1];rfl
theorem qJV:∀ (es:List MapEntry),(qDD es).length=3*es.length
 | []=>rfl
 | e::es=>by
   show (qDD es).length+3=_;rw[qJV es,zO4];omega
theorem qJ7 (k:Nat):∀ (es:List MapEntry),yA k (qDD es)=true
 | []=>rfl
 | e::es=>qJ7 k es
theorem qAN (k c:Nat)(es:List MapEntry):yA k (wU c es)=true:=qJ7 k es
theorem Hp.zK2 (hp:Hp P Z H (own m ph)){k:Nat}{ob:PO}{o:Obj}(hsp:spec P ob.el=true)(hl:qE9 (H.push o) H.size ob∨MIt P Z (H.push o) (own (fun j=>if j=k then H.size else m j) ((k,ob)::ph)) H.size ob)(hn:fT k ph=true)(hb:H.base<=H.size) :
 Hp P Z (H.push o) (own (fun j=>if j=k then H.size else m j) ((k,ob)::ph)) ∧
  Step Z H (own m ph) Z (H.push o) (own (fun j=>if j=k then H.size else m j) ((k,ob)::ph))∧KR (fun j=>j==k) (own m ph) (own (fun j=>if j=k then H.size else m j) ((k,ob)::ph)):=by
 have hold:∀ j,j≠k->own (fun j=>if j=k then H.size else m j) ((k,ob)::ph) j=own m ph j:=fun j hj=>by
  have:(j==k)=false:=by simpa using hj
  have e:qA j ((k,ob)::ph)=qA j ph:=by
   show cond (j==k) (some ob) (qA j ph)=_;rw[this];rfl
  unfold own;rw[e];simp only[if_neg hj]
 have hnew:own (fun j=>if j=k then H.size else m j) ((k,ob)::ph) k=some (H.size,ob):=wF
 have hkr:KR (fun j=>j==k) (own m ph) (own (fun j=>if j=k then H.size else m j) ((k,ob)::ph)):=fun j b' ob' h=>by
  by_cases hj:j=k
  ·exact .inr (.inr (by simp[hj]))
  ·rw[hold j hj] at h;exact .inl ⟨ob',h,rfl,rfl,rfl⟩
 have hs:(H.push o).size=H.size+1:=rfl
 have hmono:∀ {xs:List PV} {us:List Value},VRL P Z H (own m ph) xs us->yA k xs=true->VRL P Z (H.push o) (own (fun j=>if j=k then H.size else m j) ((k,ob)::ph)) xs us:=fun h hx =>
  h.mono (fun _ h=>h) (by omega) (fun b hz hb=>jJ hb) hkr fun j hj=>by
   have e:j=k:=by simpa using hj
   rw[e];exact hx
 refine⟨⟨fun b hz=>by have:=hp.zlt b hz;omega,fun j b o' hj=>?_,fun j j' b b' o o' h1 h2 r1 r2 hne=>?_,hp.gl.mono hp.zlt (fun _ h=>h) fun b hz hb=>jJ hb⟩,⟨by omega,rfl,fun _ h=>h,fun b hb hn=>jJ hb,fun b h _=>.inl h,fun b ⟨j,o',hj,hr⟩ hb=>?_⟩,hkr⟩
 ·by_cases e:j=k
  ·subst e;rw[hnew] at hj;cases hj;exact .inr ⟨by omega,hb,fun hz=>by have:=hp.zlt _ hz;omega,.inr ⟨hsp,hl⟩⟩
  ·rw[hold j e] at hj
   rcases hp.obj j b o' hj with h | ⟨q1,q2,q3,q4⟩
   ·exact .inl h
   ·exact .inr ⟨by omega,q2,q3,q4.mono (jJ q1) fun _ q5=>hmono q5 (jW hn (vK hj).1)⟩
 ·have lt:∀ {i c oc},i≠k->own (fun j=>if j=k then H.size else m j) ((k,ob)::ph) i=some (c,oc)->Go.Idl.real oc->c < H.size:=fun hi h hr=>by
   rw[hold _ hi] at h;rcases hp.obj _ _ _ h with q | q
   ·exact absurd q hr
   ·exact q.1
  by_cases e:j=k
  ·subst e;rw[hnew] at h1;cases h1;have:=lt (Ne.symm hne) h2 r2;omega
  ·by_cases e':j'=k
   ·subst e';rw[hnew] at h2;cases h2;have:=lt hne h1 r1;omega
   ·rw[hold _ e] at h1;rw[hold _ e'] at h2;exact hp.inj j j' b b' o o' h1 h2 r1 r2 hne
 ·by_cases e:j=k
  ·subst e;rw[hnew] at hj;cases hj;omega
  ·rw[hold j e] at hj;exact⟨j,o',hj,hr⟩
theorem Hp.zMD (hp:Hp P Z H (own m ph)){k:Nat}{ob:PO}{o:Obj}{cs:List PV}(hl:qA k ph=some ob)(hsp:spec P ob.el=true)(hgr:ob.gr=false)(hlen:ob.cs.length<=cs.length)
 (hi:qE9 (H.put (m k) o) (m k) { ob with cs:=cs }∨MIt P Z (H.put (m k) o) (own m (xW k { ob with cs:=cs } ph)) (m k) { ob with cs:=cs }) :
 Hp P Z (H.put (m k) o) (own m (xW k { ob with cs:=cs } ph)) ∧
  Step Z H (own m ph) Z (H.put (m k) o) (own m (xW k { ob with cs:=cs } ph))∧∀ p,KR p (own m ph) (own m (xW k { ob with cs:=cs } ph)):=by
 have hk:=qN (m:=m) hl;have hre:Go.Idl.real ob:=fun h=>by rw[hgr] at h;cases h.1
 have hold:∀ j,j≠k->own m (xW k { ob with cs:=cs } ph) j=own m ph j:=fun j hj=>by
  unfold own;rw[zD,if_neg (fun h=>hj h.1)]
 have hnew:own m (xW k { ob with cs:=cs } ph) k=some (m k,{ ob with cs:=cs }):=by
  unfold own;rw[zD,if_pos ⟨rfl,by rw[hl];rfl⟩];rfl
 have hkr:∀ p,KR p (own m ph) (own m (xW k { ob with cs:=cs } ph)):=fun p j b' ob' h=>by
  by_cases hj:j=k
  ·subst hj;rw[hnew] at h;cases h;by_cases he:ob.cs.length=cs.length
   ·exact .inl ⟨ob,hk,he,rfl,rfl⟩
   ·exact .inr (.inl ⟨_,ob,hk,by show ob.cs.length < cs.length;omega,rfl,fun _=>rfl⟩)
  ·rw[hold j hj] at h;exact .inl ⟨ob',h,rfl,rfl,rfl⟩
 obtain⟨w1,w2,w3⟩:=hp.zJP hl hre;have hg:∀ b,b≠m k->(H.put (m k) o).get b=H.get b:=fun b hb=>xP hb
 have hmono:∀ {xs:List PV} {us:List Value},VRL P Z H (own m ph) xs us->VRL P Z (H.put (m k) o) (own m (xW k { ob with cs:=cs } ph)) xs us:=fun h =>
  h.mono (p:=fun _=>false) (H:=H) (H':=H.put (m k) o) (fun _ h=>h) (zOI _) (fun b hz hb=>hg b fun e=>w3 (e ▸ hz)) (hkr _) fun j hj=>by cases hj
 refine⟨⟨fun b hz=>hp.zlt b hz,fun j b o' hj=>?_,fun j j' b b' o o' h1 h2 r1 r2 hne=>?_,hp.gl.mono hp.zlt (fun _ h=>h) fun b hz hb=>hg b fun e=>w3 (e ▸ hz)⟩,⟨zOI _,rfl,fun _ h=>h,fun b hb hn=>hg b fun e=>hn ⟨k,ob,by rw[e];exact hk,hre⟩,fun b h _=>.inl h,fun b ⟨j,o',hj,hr⟩ hb=>?_⟩,hkr⟩
 ·by_cases e:j=k
  ·subst e;rw[hnew] at hj;cases hj;exact .inr ⟨w1,w2,w3,.inr ⟨hsp,hi⟩⟩
  ·rw[hold j e] at hj
   rcases hp.obj j b o' hj with h | ⟨q1,q2,q3,q4⟩
   ·exact .inl h
   ·by_cases hro:Go.Idl.real o'
    ·exact .inr ⟨q1,q2,q3,q4.mono (hg b (hp.inj j k b (m k) o' ob hj hk hro hre e)) fun _ q5=>hmono q5⟩
    ·by_cases hx:o'.gr=true∧o'.cs=[]
     ·exact .inl hx
     ·exact absurd hx hro
 ·have back:∀ {i c oc},own m (xW k { ob with cs:=cs } ph) i=some (c,oc)->Go.Idl.real oc->∃ oc',own m ph i=some (c,oc')∧Go.Idl.real oc':=fun {i c oc} h hr=>by
   by_cases e:i=k
   ·subst e;rw[hnew] at h;cases h;exact⟨ob,hk,hre⟩
   ·rw[hold _ e] at h;exact⟨oc,h,hr⟩
  obtain⟨o1,e1,f1⟩:=back h1 r1;obtain⟨o2,e2,f2⟩:=back h2 r2;exact hp.inj j j' b b' o1 o2 e1 e2 f1 f2 hne
 ·by_cases e:j=k
  ·subst e;rw[hnew] at hj;cases hj;exact⟨j,ob,hk,hre⟩
  ·rw[hold j e] at hj;exact⟨j,o',hj,hr⟩
theorem Hp.zK3 (hp:Hp P Z H (own m ph)){k:Nat}{ob:PO}{o:Obj}{cs:List PV}(hl:qA k ph=some ob)(hsp:spec P ob.el=true)(hgr:ob.gr=false)(hlen:ob.cs.length<=cs.length)(hc:∀ j,yA j cs=true)
 (hi:qE9 (H.put (m k) o) (m k) { ob with cs:=cs }) :
 Hp P Z (H.put (m k) o) (own m (xW k { ob with cs:=cs } ph)) ∧
  Step Z H (own m ph) Z (H.put (m k) o) (own m (xW k { ob with cs:=cs } ph))∧∀ p,KR p (own m ph) (own m (xW k { ob with cs:=cs } ph)):=hp.zMD hl hsp hgr hlen (.inl hi)
theorem qQA {mv:PV}{v:Value}{k c:Nat}{ob:PO}{es:List MapEntry}(hp:Hp P Z H (own m ph))(hv:VR P Z H (own m ph) mv v)(h:sU P mv ph=some (k,ob,c,es)) :
 qA k ph=some ob∧ob.el=1000000001∧ob.gr=false∧spec P ob.el=true∧v=.map (some (m k))∧H.base<=m k∧ob.cs=wU c es∧∃ a,H.get (m k)=some (.map a c)∧a.toList=es:=by
 unfold sU at h;split at h
 case h_2=>cases h
 rename_i k';split at h
 case h_2=>cases h
 rename_i ob' hl
 cases hc:(spec P ob'.el&&Nat.beq ob'.el 1000000001) with
 | false=>rw[hc] at h;cases h
 | true =>
   rw[hc] at h;simp only[cond_true] at h;rw[zOG] at hc;have he:ob'.el=1000000001:=zOH hc.2;split at h
   case h_2=>cases h
   rename_i c' es' hm;cases h
   cases hv with
   | mp _ hh =>
     obtain⟨_,rfl⟩:=hh _ _ (qN hl)
     rcases hp.obj k (m k) ob (qN hl) with q | ⟨x1,x2,x3,x4⟩
     ·have:ob.cs=[]:=q.2;rw[this] at hm;cases hm
     ·rcases x4 with ⟨y,_⟩ | ⟨y1,y2⟩
      ·rw[hc.1] at y;cases y
      ·rcases y2 with (⟨q,_⟩ | ⟨_,hgr,a,clk,z1,z2⟩) | ⟨q,_⟩
       ·rw[he] at q;cases q
       ·have e1:mapOf ob.cs=some (clk,a.toList):=by rw[z2];exact qQP clk a.toList
        rw[e1] at hm;cases hm;exact⟨hl,he,hgr,y1,rfl,x2,z2,a,z1,rfl⟩
       ·rw[he] at q;cases q
theorem qTC {M:Nat->Option (Nat×PO)}{ok b:Bool}{v:Value}:VR P Z H M (q34 ok v b) (q4H ok v b):=by
 unfold q34 q4H
 cases ok with
 | false=>exact qCX v
 | true =>
   refine .tup rfl fun i x u h1 h2=>?_
   match i,h1,h2 with
   | 0,h1,h2=>simp at h1 h2;subst h1 h2;exact qCX v
   | 1,h1,h2=>simp at h1 h2;subst h1 h2;exact vR rfl
theorem qR0 {t:TypeId}{mv kx x:PV}{v kv:Value}{ok:Bool}(hp:Hp P Z H (own m ph))(hv:VR P Z H (own m ph) mv v)(hk:VR P Z H (own m ph) kx kv)(h:uU P t mv kx ok ph=some x) :
 ∃ u,qC0 P t v kv ok H=some u∧VR P Z H (own m ph) x u:=by
 unfold uU at h;split at h
 case h_2=>cases h
 rename_i kt et k ob c es kv' hu hm hkv;obtain⟨h1,h2,h3,h4,rfl,h6,h7,a,h8,rfl⟩:=qQA hp hv hm;have:=yM hk hkv;subst this;unfold qC0;rw[hu];simp only[h8];split at h
 ·rename_i i hi;rw[hi];simp only;split at h
  ·rename_i e he;cases h;have he2:a[i]?=some e:=by rw[<-zSM];exact he
   rw[he2];exact⟨_,rfl,qTC⟩
  ·cases h
 ·rename_i hi;rw[hi];simp only;split at h
  ·rename_i z hz
   cases hpl:yV z with
   | false=>rw[hpl] at h;cases h
   | true =>
     rw[hpl] at h;cases h;rw[hz];simp only[hpl,if_true];exact⟨_,rfl,qTC⟩
  ·cases h
 ·cases h
theorem q9X {H:IH}{b:Nat}{ob:PO}{a:Array MapEntry}{c:Nat}(h2:ob.el=1000000001)(h3:ob.gr=false):qE9 (H.put b (.map a c)) b { ob with cs:=wU c a.toList } :=
 .inr ⟨h2,h3,a,c,dJ,rfl⟩
theorem uZ (c:Nat)(es:List MapEntry):(wU c es).length=3*es.length+1:=by
 show (qDD es).length+1=_;rw[qJV]
theorem qGL {p:Nat->Bool}{t:TypeId}{mv kx x:PV}{v kv xv:Value}{ph':PHp}(hp:Hp P Z H (own m ph))(hv:VR P Z H (own m ph) mv v)(hk:VR P Z H (own m ph) kx kv)(hx:VR P Z H (own m ph) x xv)(h:jM P t mv kx x ph=some ph') :
 Res P Z H m ph p (.tup []) ph' (qLX (jS P t v kv xv H)):=by
 unfold jM at h;split at h
 case h_2=>cases h
 rename_i kt et k ob c es kv' xv' hu hm hkv hxv;obtain⟨h1,h2,h3,h4,rfl,h6,h7,a,h8,rfl⟩:=qQA hp hv hm;have:=yM hk hkv;subst this;have:=yM hx hxv;subst this;have und:VR P Z H (own m ph) (.tup []) undef:=.tup (vs:=#[]) rfl (fun i x v h=>by simp at h)
 cases hnt:zK xv with
 | false=>rw[hnt] at h;cases h
 | true =>
 rw[hnt] at h;simp only[cond_true] at h
 have pre:jS P t (.map (some (m k))) kv xv H=(match eY P kt kv a.toList with
  | some (some i)=>match a[i]? with
    | some e=>if Instr.sameBits 10000 e.key kv then some (H.put (m k) (.map (a.modify i fun e=>{ e with key:=kv,val:=xv }) c)) else none
    | none=>none
  | some none=>some (H.put (m k) (.map (a.push { key:=kv,val:=xv,born:=c }) (c+1)))
  | none=>none):=by
  unfold jS;rw[hu];simp only[h8,hnt,h6,decide_true,zPG,if_true];rfl
 rw[pre];split at h
 ·rename_i i hi;rw[hi];simp only;split at h
  ·rename_i e he;have he2:a[i]?=some e:=by rw[<-zSM];exact he
   rw[he2]
   cases hsb:Instr.sameBits 10000 e.key kv with
   | false=>rw[hsb] at h;cases h
   | true =>
     rw[hsb] at h;cases h;simp only[hsb,if_true];have hcs:wU c (a.toList.modify i fun e=>{ e with key:=kv,val:=xv })=wU c (a.modify i fun e=>{ e with key:=kv,val:=xv }).toList:=by rw[Array.toList_modify]
     rw[hcs];obtain⟨r1,r2,r3⟩:=hp.zK3 (o:=.map (a.modify i fun e=>{ e with key:=kv,val:=xv }) c) h1 h4 h3 (by rw[h7,uZ,uZ,zPU,zPU];first | (rw[Array.size_modify];exact zOI _) | (rw[Array.size_push];omega)) (fun j=>qAN j _ _) (q9X h2 h3);exact⟨undef,_,Z,m,rfl,r1,.tup (vs:=#[]) rfl (fun i x v h=>by simp at h),r2,r3 p⟩
  ·cases h
 ·rename_i hi;rw[hi];simp only;cases h;have hcs:wU (c+1) (a.toList++[⟨kv,xv,c⟩])=wU (c+1) (a.push ⟨kv,xv,c⟩).toList:=by rw[Array.toList_push]
  rw[hcs];obtain⟨r1,r2,r3⟩:=hp.zK3 (o:=.map (a.push ⟨kv,xv,c⟩) (c+1)) h1 h4 h3 (by rw[h7,uZ,uZ,zPU,zPU];first | (rw[Array.size_modify];exact zOI _) | (rw[Array.size_push];omega)) (fun j=>qAN j _ _) (q9X h2 h3);exact⟨undef,_,Z,m,rfl,r1,.tup (vs:=#[]) rfl (fun i x v h=>by simp at h),r2,r3 p⟩
 ·cases h
theorem qMY {k:Nat}{x:PV}{ph':PHp}(hp:Hp P Z H (own m ph))(hb:H.base<=H.size)(hn:fT k ph=true)(h:cO P k ph=some (x,ph')):Res P Z H m ph (fun j=>j==k) x ph' (bK none H):=by
 obtain⟨hsp,h⟩:spec P 1000000001=true∧_=_:=by
  unfold cO at h
  cases hc:spec P 1000000001 with
  | false=>rw[hc] at h;cases h
  | true=>rw[hc] at h;exact⟨rfl,h⟩
 obtain⟨rfl,rfl⟩:=fE h;obtain⟨r1,r2,r3⟩:=hp.zK2 (k:=k) (ob:=⟨1000000001,false,wU 0 []⟩) (o:=.map #[] 0) hsp (.inl (.inr ⟨rfl,rfl,#[],0,fD,rfl⟩)) hn hb;exact⟨_,_,Z,_,rfl,r1,.mp rfl fun b ob hM=>by rw[wF] at hM;cases hM;exact⟨rfl,rfl⟩,r2,r3⟩
theorem q8Y {M:Nat->Option (Nat×PO)}{k:Nat}{b:Nat}(h:∀ b' ob,M k=some (b',ob)->ob.el=1000000001∧b'=b):VR P Z H M (.mp k) (.map (some b)) :=
 .mp rfl fun b' ob hM=>by
  obtain⟨h1,h2⟩:=h b' ob hM;exact⟨h1,by rw[h2]⟩
theorem q0F {ts:Array TypeId}{x y:PV}{v:Value}{S:Option zE7}(hp:Hp P Z H (own m ph))(hx:VR P Z H (own m ph) x v)(hl:q2G P ts x ph=some y->∃ u,S=some (.val u H)∧VR P Z H (own m ph) y u)(hS:∀ w,nL P ts [v] H=some w->S=some w)(h:qC6 P ts x ph=some y):∃ u,S=some (.val u H)∧VR P Z H (own m ph) y u:=by
 unfold qC6 at h;split at h
 case h_2=>exact hl h
 rename_i cs hcs
 cases hm:q84 P ts with
 | false=>rw[hm] at h;cases h
 | true =>
   rw[hm] at h;cases h;unfold sG at hcs;split at hcs
   case h_2=>cases hcs
   rename_i k;split at hcs
   case h_2=>cases hcs
   rename_i ob hlk
   cases hc:(!ob.gr&&(spec P ob.el&&Nat.beq ob.el 1000000001)) with
   | false=>rw[hc] at hcs;cases hcs
   | true =>
     rw[hc] at hcs;cases hcs;rw[zOG,zO3] at hc;obtain⟨zME,hc⟩:=hc;rw[zOG] at hc;have he:ob.el=1000000001:=zOH hc.2
     cases hx with
     | mp _ hh =>
       obtain⟨_,rfl⟩:=hh _ _ (qN hlk)
       have key:∀ a clk,H.get (m k)=some (.map a clk)->ob.cs=wU clk a.toList->∃ u,S=some (.val u H)∧VR P Z H (own m ph) (fvv (.int .i64 ((ob.cs.length / 3:Nat):Int))) u:=fun a clk z1 z2=>by
        refine⟨goInt a.size,hS _ ?_,?_⟩
        ·unfold q84 at hm;split at hm
         ·rename_i hu;unfold nL;rw[hu];simp only[z1]
         ·cases hm
        ·have:ob.cs.length / 3=a.size:=by rw[z2,uZ,zPU];omega
         rw[this];exact vR rfl
       rcases hp.obj k (m k) ob (qN hlk) with q | ⟨x1,x2,x3,x4⟩
       ·rw[zME] at q;cases q.1
       ·rcases x4 with ⟨y,_⟩ | ⟨y1,y2⟩
        ·rw[hc.1] at y;cases y
        ·rcases y2 with (⟨q,_⟩ | ⟨_,hgr,a,clk,z1,z2⟩) | ⟨q,_⟩
         ·rw[he] at q;cases q
         ·exact key a clk z1 z2
         ·rw[he] at q;cases q
end
end Go.Idl
