/- Operations on values without a heap against the ideal ones: builtins; one operation. Conditions: none. -/
import Derived.Test.YtkmfigmiehpcpaaGreatDoorPurA
set_option linter.all false
namespace Go.Idl
variable [Gc]
variable {P:Program}{Z:Nat->Prop}{H:IH}{M:Nat->Option (Nat×PO)}{m:Nat->Nat}{ph:PHp}
theorem aM {o:Oper}{b:Builtin}{args:Array Operand}{ts:Array TypeId}{env:Env}{s:zEM}(h:yK P b ⟨.builtin b,args,ts⟩ (kR env.val args.toList) H=some s):yL P o ⟨.builtin b,args,ts⟩ env H=some s:=by
 have:gY P ⟨.builtin b,args,ts⟩ env H=some s:=h;unfold yL;rw[this]
theorem qMM {o:Oper}{b:Builtin}{args:Array Operand}{ts:Array TypeId}{env:Env}{s:Option zEM}(hn:yK P b ⟨.builtin b,args,ts⟩ (kR env.val args.toList) H=none)(h:kL P o env H=s):yL P o ⟨.builtin b,args,ts⟩ env H=s:=by
 have:gY P ⟨.builtin b,args,ts⟩ env H=none:=hn;unfold yL;rw[this];exact h
theorem q9D (P:Program){v a:Value}(h:pl (ofC v)=some a):a=v:=(yS (P:=P) (Z:=fun _=>False) (H:=H00) (M:=fun _=>none) (qAX v) h).symm
theorem dN (P:Program){env:List PV}{x:Operand}{a:Value}(h:pl (qK env x)=some a):(qR8 env).val x=a:=by
 cases x with
 | tmp t =>
   have h:pl ((zL env t).getD .unk)=some a:=h;unfold Env.val qR8;rw[qF] at h;simp only[qF,xI,zN9]
   cases he:env[t]? with
   | none=>rw[he] at h;cases h
   | some y=>rw[he] at h;simp only[zPW] at h;simp[erV,h]
 | const v=>exact (q9D P h).symm
 | global g=>cases h
 | func g=>cases h;rfl
theorem qF1:∀ {xs:List PV} {as:List Value},plL xs=some as->∀ x∈xs,∃ a,pl x=some a
 | [],_,_,x,hx=>by cases hx
 | y::xs,as,h,x,hx=>by
   unfold plL at h;split at h
   ·rename_i a ha;split at h
    ·rename_i as' has;rcases zOF.1 hx with rfl | hx
     ·exact⟨a,ha⟩
     ·exact qF1 has x hx
    ·cases h
   ·cases h
theorem qA0 {d:Option Tmp}{b:Builtin}{args:Array Operand}{ts:Array TypeId}{ty:TypeId}{pos:String}{aft:Array Edge}{g:Option (Nat×Bool)}{env:List PV}{zEE:Env}{y:PV}{ph':PHp}(he:VRL P Z H (own m ph) env zEE)
 (hn:yK P b ⟨.builtin b,args,ts⟩ (kR zEE.val args.toList) H=none) (h:vU P b ⟨.builtin b,args,ts⟩ (args.toList.map (qK env)) env ty ph=some (y,ph')) :
 ph'=ph∧∃ u,yL P ⟨d,.call ⟨.builtin b,args,ts⟩,ty,pos,aft,g⟩ ⟨.builtin b,args,ts⟩ zEE H=some (.val u H)∧VR P Z H (own m ph) y u:=by
 unfold vU at h;split at h
 ·rename_i vs hvs;unfold pp1 at h;split at h
  ·rename_i v hv;cases h;refine⟨rfl,?_⟩
   obtain⟨u,h1,h2⟩:=qMB (P:=P) (Z:=Z) (H:=H) (M:=own m ph) (s:=kL P ⟨d,.call ⟨.builtin b,args,ts⟩,ty,pos,aft,g⟩ zEE H) hv fun w H0 hw=>by
    have e:kL P ⟨d,.call ⟨.builtin b,args,ts⟩,ty,pos,aft,g⟩ zEE H=kL P ⟨d,.call ⟨.builtin b,args,ts⟩,ty,pos,aft,g⟩ (qR8 env) H:=by
     refine pK (fun cs b h=>by cases h) fun x hx=>?_
     have hx':x∈args:=by simpa [Op.operands,Call.operands] using hx
     obtain⟨a,ha⟩:=qF1 hvs (qK env x) (zOJ.2 ⟨x,by simpa using hx',rfl⟩);rw[dN P ha];exact yS (qM he x) ha
    rw[e];have e2:∀ H,kL P ⟨d,.call ⟨.builtin b,args,ts⟩,ty,pos,aft,g⟩ (qR8 env) H=kL P (cop (.call ⟨.builtin b,args,ts⟩) ty) (qR8 env) H:=fun H=>rfl
    rw[e2];exact qUU hw H
   exact⟨u,qMM hn h1,h2⟩
  ·cases h
 ·cases h
theorem qU1 {el n:Nat}{cs:List FV}{v:Value}(h:VR P Z H M (.f (.l el n cs)) v):∃ a c,v=.slice a n c:=by
 cases h with
 | f h=>cases h <;> exact⟨_,_,rfl⟩
theorem q7G {d:Option Tmp}{x:Operand}{ts:Array TypeId}{ty:TypeId}{pos:String}{aft:Array Edge}{g:Option (Nat×Bool)}{env:Env}{px y:PV}(hx:VR P Z H (own m ph) px (env.val x))(h:q1E P ts px ph=some y) :
 ∃ u,yL P ⟨d,.call ⟨.builtin .len,#[x],ts⟩,ty,pos,aft,g⟩ ⟨.builtin .len,#[x],ts⟩ env H=some (.val u H)∧VR P Z H (own m ph) y u:=by
 have hb:∀ s,oV P ts [env.val x] H=s->yK P .len ⟨.builtin .len,#[x],ts⟩ (kR env.val #[x].toList) H=s:=fun s h=>h
 unfold q1E at h;split at h
 ·rename_i t ht;split at h
  ·rename_i el he
   have hsl:∀ a n c,env.val x=.slice a n c->∃ u,yL P ⟨d,.call ⟨.builtin .len,#[x],ts⟩,ty,pos,aft,g⟩ ⟨.builtin .len,#[x],ts⟩ env H=some (.val u H)∧VR P Z H (own m ph) (fvv (.int .i64 (n:Int))) u:=fun a n c hv=>by
    refine⟨goInt n,aM (hb _ ?_),vV rfl⟩;unfold oV;rw[ht,hv];simp only[zOD,zV he]
   split at h
   ·cases h;obtain⟨a,c,hv⟩:=qU1 hx;exact hsl _ _ _ hv
   ·cases h;exact hsl _ _ _ (yS hx rfl)
   ·rename_i k tt o n;split at h
    ·rename_i ob hl;split at h
     ·rename_i s hs
      cases hc:Nat.beq (tt*s) ob.cs.length with
      | false=>rw[hc] at h;cases h
      | true =>
        rw[hc] at h;cases h;obtain⟨hO,h0⟩:=wB hx hl hs (zNU hc)
        rcases hO with ⟨_,_,_,rfl,hv⟩ | ⟨_,_,_,hv⟩
        ·exact hsl _ _ _ hv
        ·exact hsl _ _ _ hv
     ·cases h
    ·cases h
   ·cases h
  ·rename_i hne;split at h
   ·rename_i n el ha;cases h;refine⟨goInt n,aM (hb _ ?_),vV rfl⟩;unfold oV;rw[ht];simp only[zOD,tJ ha]
   ·cases h
 ·cases h
theorem qQJ {x:PV}{v:Value}{s n:Nat}{new:List PV}(hp:Hp P Z H (own m ph))(hx:VR P Z H (own m ph) x v)(h:mW P s x ph=some (n,new)) :
 ∃ vs a c,v=.slice a n c∧jC s n H v=some vs∧VRL P Z H (own m ph) new vs∧new.length=n*s:=by
 unfold mW at h;split at h
 ·rename_i el n' cs
  cases hc:Nat.beq (n'*s) cs.length with
  | false=>rw[hc] at h;cases h
  | true =>
    rw[hc] at h;cases h;have hlen:=zNU hc
    cases hx with
    | f hx =>
      cases hx with
      | nil h0 hsp=>exact⟨[],_,_,rfl,by unfold jC;simp[kH],by simpa using VRL.nil,by simp⟩
      | @l _ _ _ b o sp c vs hz hb hn hsp hl hcv =>
        refine⟨vs,_,_,rfl,?_,qUA (by rw[kI hl]) hcv,by simp[hlen]⟩;unfold jC;by_cases h0:n=0
        ·subst h0
         have:vs=[]:=by
          have:=kI hl;rw[<-hlen] at this;exact zO1.1 (by omega)
         subst this;simp[kH]
        ·rw[if_neg h0];unfold wP;rw[hlen];exact hl
 ·cases h;have:=yS hx rfl;subst this;exact⟨[],_,_,rfl,by unfold jC;simp[kH],.nil,by simp⟩
 ·rename_i k tt o n';split at h
  ·rename_i ob hl;split at h
   ·rename_i s' hs
    cases hc:(Nat.beq (tt*s') ob.cs.length&&Nat.beq s s') with
    | false=>rw[hc] at h;cases h
    | true =>
      rw[hc] at h;cases h;rw[zNT] at hc;have h1:=zNU hc.1;have h2:=zNU hc.2;subst h2;obtain⟨hO,h0⟩:=wB hx hl hs h1
      rcases hO with ⟨g1,rfl,rfl,rfl,rfl⟩ | ⟨g1,g2,g3,rfl⟩
      ·exact⟨[],_,_,rfl,by unfold jC;simp[kH],by simpa using VRL.nil,by simp⟩
      ·obtain⟨w1,w2,w3,vs,q1,q2,q3⟩:=hp.real hl (dD h1 h0 g1) (xZ hs);have hle:(o+n)*s<=tt*s:=zOW _ g2;rw[zP1] at hle;refine⟨(vs.drop (o*s)).take (n*s),_,_,rfl,?_,(q2.drop _).take _,by simp;omega⟩;unfold jC;by_cases hn0:n=0
       ·subst hn0;simp[kH]
       ·rw[if_neg hn0];unfold wP;exact xR q1 (by rw[<-q2.len];omega) rfl
   ·cases h
  ·cases h
 ·cases h
theorem qW6 (g:Bool):bD (cond g zN (0,0))=true:=by cases g <;> rfl
theorem qRH {el:TypeId}{i:TypeInfo}{need:Nat}{new:List Value}(hi:P.info? el=some i)(hs:kT P el=true)(hn:need<=1048576)(h1:new.all oneCell=true) :
 (decide (need<=2 ^ 40)&&decide (need*i.bytes<=2 ^ 45)&&new.all oneCell&&((gM P el).map (·.cells.size))==some i.size)=true:=by
 obtain⟨i',q1,q2,q3⟩:=qE0 hs;rw[hi] at q1;cases q1;rw[q3,h1];simp only[beq_self_eq_true,zP5,zNT,decide_eq_true_eq];have:need*i.bytes<=1048576*4096:=Nat.mul_le_mul hn q2;omega
theorem qSM {ts:List TypeId}{base x y:PV}{vb vx:Value}{k:Nat}{ph':PHp}(hp:Hp P Z H (own m ph))(hb:H.base<=H.size)(hn:fZ k ph=true)(hbase:VR P Z H (own m ph) base vb)(hx:VR P Z H (own m ph) x vx)(hkx:noK k x=true)(hkb:noK k base=true)
 (h:zY P ts base x k ph=some (y,ph')):Res P Z H m ph (fun j=>j==k) y ph' (uQ P ts.toArray [vb,vx] H):=by
 unfold zY at h;split at h
 ·rename_i st xt;split at h
  ·rename_i el el2 he he2;split at h
   ·rename_i s hs;split at h
    ·rename_i mm new hnew;obtain⟨vs,a,c,rfl,hf,hr,hlen⟩:=qQJ hp hx hnew;obtain⟨i,hi,hisz⟩:∃ i,P.info? el=some i∧i.size=s+1:=qQP hs
     have hnews:qL0 P el i (.slice el2) (.slice a mm c) H=some (mm,vs):=by
      unfold qL0;simp only[kH,qWE,cond_true,hisz,hf,zN8]
     have zI7:yC k new=true:=by
      unfold mW at hnew;split at hnew
      ·rename_i el3 n3 cs3
       cases hc:Nat.beq (n3*(s+1)) cs3.length with
       | false=>rw[hc] at hnew;cases hnew
       | true =>
         rw[hc] at hnew;cases hnew
         have key:∀ l:List FV,yC k (l.map PV.f)=true:=fun l=>by
          induction l with
          | nil=>rfl
          | cons a l ih=>simp only[zOC,yC,noK,ih,zOS]
         exact key _
      ·cases hnew;rfl
      ·split at hnew
       ·rename_i ob hl;split at hnew
        ·rename_i s' hs'
         cases hc:(Nat.beq (_*s') ob.cs.length&&Nat.beq (s+1) s') with
         | false=>rw[hc] at hnew;cases hnew
         | true =>
           rw[hc] at hnew;cases hnew;exact qCF (qBN (j4 hn hl))
        ·cases hnew
       ·cases hnew
      ·cases hnew
     have iap:∀ bs len cap,uQ P #[st,xt] [.slice bs len cap,.slice a mm c] H=wE P el i bs len cap H (some (mm,vs)):=fun bs len cap=>by
      unfold uQ;simp only[zV he,zV he2,hi,hnews]
     -- it grows into a new block
     have grow:∀ (old:List PV) (ovs:List Value) (n:Nat) (bs:Option Addr) (cap kk:Nat) (H1:IH) (php:PHp) (p:Nat->Bool),nS P el (s+1) old n new mm kk php=some (y,ph')->VRL P Z H (own m ph) old ovs->ovs.all oneCell=true->cap < n+mm->wP i.size n H (.slice bs n cap)=some ovs ->
      qJ1 el H bs=some H1->H1.size=H.size->H1.base=H.base->(∀ b,b < H.size->(∀ ob0,qB kk ph=some ob0->real ob0->b≠m kk)->H1.get b=H.get b)->(∀ j,j≠kk->qB j php=qB j ph) ->
      (p kk=true∨∃ ob0,qB kk ph=some ob0∧ob0.cs.length < (old++new).length∧ob0.el=el)->(∀ j,p j=true->j=kk∧fZ kk ph=true∧yC kk (old++new)=true)->(∀ j,p j=true->(j==k)=true) ->
      Res P Z H m ph (fun j=>j==k) y ph' (wE P el i bs n cap H (some (mm,vs))):=by
      intro old ovs n bs cap kk H1 php p hg hro ho1 hcap hfi hki q1 q2 q3 q4 q5 q6 q7;unfold nS at hg
      cases hc:(Nat.ble (n+mm) 1048576&&(kT P el&&(Nat.beq (old.length) (n*(s+1))&&(Nat.beq new.length (mm*(s+1))&&new.all aF)))) with
      | false=>rw[hc] at hg;cases hg
      | true =>
        rw[hc] at hg;simp only[cond_true] at hg;simp only[zNT] at hc;obtain⟨c1,c2,c3,c4,c5⟩:=hc;obtain⟨rfl,rfl⟩:=fI hg;have l1:=zN3 c1;have l3:=zNU c3;have l4:=zNU c4;have hv1:=hr.one c5;obtain⟨r1,r2,r3⟩:=hp.zI4 (p:=p) (k:=kk) (ob:=⟨el,true,old++new⟩) (vs:=ovs++vs) (ph0:=php) q1 q2 q3 (xZ hs) (q5.imp id fun ⟨ob0,z1,z2,z3⟩=>⟨ob0,z1,z2,z3,qTN c2⟩) (by simpa using q6) (hro.append hr) (by rw[zRF,ho1,hv1];rfl) hb q4;refine⟨_,_,Z,_,?_,r1,qVS wR hs (by omega) (by simp only[zOG,l3,l4,zP1]) (fun _=>by omega),r2,fun j b' ob' hM=>?_⟩
        ·unfold wE;simp only[];rw[if_neg (by omega)];unfold qRC;rw[if_pos (qRH hi c2 l1 hv1)];simp only[hfi,hki,q1];rfl
        ·rcases r3 j b' ob' hM with h | h | h
         ·exact .inl h
         ·exact .inr (.inl h)
         ·exact .inr (.inr (q7 j h))
     split at h
     ·-- nil
      have:=yS hbase rfl;subst this
      cases h0:Nat.beq mm 0 with
      | true =>
        rw[h0] at h;cases h;have hm0:=zNU h0;subst hm0
        have hv0:vs=[]:=by
         have:=hr.len;rw[hlen] at this;exact zO1.1 (by omega)
        subst hv0;refine .same ?_ hp hbase;rw[show ([st,xt]:List TypeId).toArray=#[st,xt] from rfl,iap];rfl
      | false =>
        rw[h0] at h;have hm0:mm≠0:=fun e=>by subst e;cases h0
        rw[show ([st,xt]:List TypeId).toArray=#[st,xt] from rfl,iap];exact grow [] [] 0 none 0 k H ph (fun j=>j==k) h .nil rfl (by omega) (by unfold wP;simp) rfl rfl rfl (fun _ _ _=>rfl) (fun _ _=>rfl) (.inl (by simp)) (fun j hj=>⟨by simpa using hj,hn,by simpa using zI7⟩) (fun j hj=>hj)
     ·-- a slice of an object
      rename_i j tt o n;split at h
      ·rename_i ob hl
       cases hc:(Nat.beq ob.el el&&(Nat.beq (tt*(s+1)) ob.cs.length&&Nat.beq o 0)) with
       | false=>rw[hc] at h;cases h
       | true =>
         rw[hc] at h;simp only[cond_true] at h;simp only[zNT] at hc;obtain⟨c1,c2,c3⟩:=hc;have e1:=zNU c1;have e2:=zNU c2;have e3:=zNU c3;subst e1 e3;obtain⟨hO,hpos⟩:=wB hbase hl hs e2;rw[show ([st,xt]:List TypeId).toArray=#[st,xt] from rfl]
         cases h0:Nat.beq mm 0 with
         | true =>
           rw[h0] at h;cases h;have hm0:=zNU h0;subst hm0
           have hv0:vs=[]:=by
            have:=hr.len;rw[hlen] at this;exact zO1.1 (by omega)
           subst hv0
           rcases hO with ⟨g1,rfl,_,rfl,rfl⟩ | ⟨g1,g2,g3,rfl⟩
           ·refine .same ?_ hp hbase;rw[iap];rfl
           ·refine .same ?_ hp hbase;rw[iap];unfold wE;simp only[];rw[if_pos (by omega)];unfold qLI;have hsp:(cond ob.gr (some ob.el) none:Option TypeId)=none∨(cond ob.gr (some ob.el) none:Option TypeId)=some ob.el:=by cases ob.gr <;> simp
            simp only[nJ hsp,if_true,List.isEmpty_nil,zQE]
         | false =>
           rw[h0] at h;simp only[cond_false] at h;have hm0:mm≠0:=fun e=>by subst e;cases h0
           cases hroom:Nat.ble (n+mm) tt with
           | true =>
             rw[hroom] at h;simp only[cond_true] at h;have hrm:=zN3 hroom
             cases hc2:(Nat.beq new.length (mm*(s+1))&&new.all aF) with
             | false=>rw[hc2] at h;cases h
             | true =>
               rw[hc2] at h;cases h;rw[zNT] at hc2
               rcases hO with ⟨g1,rfl,_,rfl,rfl⟩ | ⟨g1,g2,g3,rfl⟩
               ·omega
               ·have hre:=dD e2 hpos g1;obtain⟨w1,w2,w3,ws,q1,q2,q3⟩:=hp.real hl hre (xZ hs);have hle:(n+mm)*(s+1)<=tt*(s+1):=zOW _ hrm;rw[zP1] at hle;have hv1:=hr.one hc2.2;obtain⟨r1,r2,r3⟩:=hp.put (cs:=yM ob.cs (n*(s+1)) new) hl hre (xZ hs) (cK (by omega)) (q2.over hr (n*(s+1))) (tX q3 hv1);refine⟨.slice (some ⟨m j,0*(s+1),cond ob.gr (some ob.el) none⟩) (n+mm) (tt - 0),_,Z,m,?_,r1,?_,r2,r3 _⟩
                ·rw[iap];unfold wE;simp only[];rw[if_pos (by omega)];unfold qLI;have hsp:(cond ob.gr (some ob.el) none:Option TypeId)=none∨(cond ob.gr (some ob.el) none:Option TypeId)=some ob.el:=by cases ob.gr <;> simp
                 simp only[nJ hsp,if_true]
                 have hne:vs.isEmpty=false:=by
                  have:=hr.len;rw[hlen] at this
                  cases vs with
                  | nil =>
                    have h9:mm*(s+1)=0:=this;rcases zRE.1 h9 with h9 | h9 <;> omega
                  | cons=>rfl
                 rw[hne];simp only[zQA,if_false]
                 have hst:H.stores (m j) (0*(s+1)+n*i.size) vs=some (H.put (m j) (.cells (overwrite ws (n*(s+1)) vs).toArray ob.el (cond ob.gr zN (0,0)))):=by
                  unfold IH.stores;rw[q1];simp only[hisz,zQ5,zOR];rw[if_pos];simp only[qW6,hv1,w2,decide_true,zP5,decide_eq_true_eq,zQG];rw[<-q2.len,<-hr.len];omega
                 rw[hst]
                ·refine .own rfl fun b' ob' hM=>?_
                 have hk:own m (xY j { ob with cs:=yM ob.cs (n*(s+1)) new } ph) j=some (m j,{ ob with cs:=yM ob.cs (n*(s+1)) new }):=by
                  unfold own;rw[zF,if_pos ⟨rfl,by rw[hl];rfl⟩];rfl
                 rw[hk] at hM;cases hM;have hol:(yM ob.cs (n*(s+1)) new).length=ob.cs.length:=cK (by omega);exact⟨s+1,hs,by omega,by show tt*(s+1)<=(yM ob.cs (n*(s+1)) new).length;omega,fun _=>.inr ⟨g1,by omega,.inl rfl,rfl⟩⟩
           | false =>
             rw[hroom] at h;simp only[cond_false] at h
             have hrm:tt < n+mm:=by
              have:¬ (n+mm<=tt):=fun hle=>by rw[zOA hle] at hroom;cases hroom
              omega
             cases hnt:Nat.beq n tt with
             | false=>rw[hnt] at h;cases h
             | true =>
               rw[hnt] at h;simp only[cond_true] at h;have hnt:=zNU hnt;subst hnt
               have hlong:ob.cs.length < (ob.cs++new).length:=by
                simp only[zOG,hlen];have:0 < mm*(s+1):=Nat.mul_pos (by omega) (by omega);omega
               cases hgr:ob.gr with
               | true =>
                 rw[hgr] at h;simp only[cond_true] at h
                 rcases hO with ⟨g1,rfl,_,_,rfl⟩ | ⟨g1,g2,g3,rfl⟩
                 ·have hc0:ob.cs=[]:=zO1.1 (by omega);rw[iap];rw[hc0] at h hlong;exact grow [] [] 0 none 0 j H (nC j ph) (fun _=>false) h .nil rfl (by omega) (by unfold wP;simp) rfl rfl rfl (fun _ _ _=>rfl) (fun i hi=>by rw[xB,if_neg hi]) (.inr ⟨ob,hl,by rw[hc0];exact hlong,rfl⟩) (fun _ h=>by cases h) (fun _ h=>by cases h)
                 ·have hre:=dD e2 hpos g1;obtain⟨w1,w2,w3,ws,q1,q2,q3⟩:=hp.real hl hre (xZ hs);rw[hgr] at q1;rw[iap];refine grow ob.cs ws n _ _ j (H.put (m j) xJ) (nC j ph) (fun _=>false) h q2 q3 (by omega) ?_ ?_ rfl rfl ?_ (fun i hi=>by rw[xB,if_neg hi]) (.inr ⟨ob,hl,hlong,rfl⟩) (fun _ h=>by cases h) (fun _ h=>by cases h)
                  ·unfold wP;simp only[hisz,zQ5];refine xR q1 (by rw[<-q2.len];omega) ?_;rw[zPA,zOL (by rw[<-q2.len];omega)]
                  ·unfold qJ1;rw[hgr];simp only[cond_true,q1];rw[if_pos (by simp[w2];rfl)]
                  ·intro b hb' hne;exact xS (hne ob hl hre)
               | false =>
                 rw[hgr] at h;simp only[cond_false] at h
                 rcases hO with ⟨g1,_⟩ | ⟨g1,g2,g3,rfl⟩
                 ·rw[hgr] at g1;cases g1
                 ·have hre:=dD e2 hpos g1;obtain⟨w1,w2,w3,ws,q1,q2,q3⟩:=hp.real hl hre (xZ hs);rw[hgr] at q1;rw[iap];refine grow ob.cs ws n _ _ k H ph (fun i=>i==k) h q2 q3 (by omega) ?_ ?_ rfl rfl (fun _ _ _=>rfl) (fun _ _=>rfl) (.inl (by simp)) (fun i hi=>⟨by simpa using hi,hn,by rw[oF,j4 hn hl,zI7];rfl⟩) (fun _ h=>h)
                  ·unfold wP;simp only[hisz,zQ5];refine xR q1 (by rw[<-q2.len];omega) ?_;rw[zPA,zOL (by rw[<-q2.len];omega)]
                  ·rw[hgr];rfl
      ·cases h
     ·cases h
    ·cases h
   ·cases h
  ·cases h
 ·cases h
section
variable {P:Program}{Z:Nat->Prop}{H:IH}{m:Nat->Nat}{ph:PHp}
theorem qK3:∀ (es:List MapEntry),qHW (qDB es)=some es
 | []=>rfl
 | e::es=>by
   show (match qHW (qDB es) with
    | some es'=>some ((⟨e.key,e.val,(e.born:Int).toNat⟩:MapEntry)::es')
    | none=>none)=_
   rw[qK3 es];rfl
theorem qQL (c:Nat)(es:List MapEntry):mapOf (wW c es)=some (c,es):=by
 show (match qHW (qDB es) with
  | some es'=>some ((c:Int).toNat,es')
  | none=>none)=_
 rw[qK3];rfl
theorem qKV:∀ (es:List MapEntry),(qDB es).length=3*es.length
 | []=>rfl
 | e::es=>by
   show (qDB es).length+3=_;rw[qKV es,zOI];omega
theorem qIO (k:Nat):∀ (es:List MapEntry),yC k (qDB es)=true
 | []=>rfl
 | e::es=>qIO k es
theorem qCA (k c:Nat)(es:List MapEntry):yC k (wW c es)=true:=qIO k es
theorem Hp.zKI (hp:Hp P Z H (own m ph)){k:Nat}{ob:PO}{o:Obj}(hsp:spec P ob.el=true)(hl:qEW (H.push o) H.size ob∨MIt P Z (H.push o) (own (fun j=>if j=k then H.size else m j) ((k,ob)::ph)) H.size ob)(hn:fZ k ph=true)(hb:H.base<=H.size) :
 Hp P Z (H.push o) (own (fun j=>if j=k then H.size else m j) ((k,ob)::ph)) ∧
  Step Z H (own m ph) Z (H.push o) (own (fun j=>if j=k then H.size else m j) ((k,ob)::ph))∧KR (fun j=>j==k) (own m ph) (own (fun j=>if j=k then H.size else m j) ((k,ob)::ph)):=by
 have hold:∀ j,j≠k->own (fun j=>if j=k then H.size else m j) ((k,ob)::ph) j=own m ph j:=fun j hj=>by
  have:(j==k)=false:=by simpa using hj
  have e:qB j ((k,ob)::ph)=qB j ph:=by
   show cond (j==k) (some ob) (qB j ph)=_;rw[this];rfl
  unfold own;rw[e];simp only[if_neg hj]
 have hnew:own (fun j=>if j=k then H.size else m j) ((k,ob)::ph) k=some (H.size,ob):=wR
 have hkr:KR (fun j=>j==k) (own m ph) (own (fun j=>if j=k then H.size else m j) ((k,ob)::ph)):=fun j b' ob' h=>by
  by_cases hj:j=k
  ·exact .inr (.inr (by simp[hj]))
  ·rw[hold j hj] at h;exact .inl ⟨ob',h,rfl,rfl,rfl⟩
 have hs:(H.push o).size=H.size+1:=rfl
 have hmono:∀ {xs:List PV} {us:List Value},VRL P Z H (own m ph) xs us->yC k xs=true->VRL P Z (H.push o) (own (fun j=>if j=k then H.size else m j) ((k,ob)::ph)) xs us:=fun h hx =>
  h.mono (fun _ h=>h) (by omega) (fun b hz hb=>jO hb) hkr fun j hj=>by
   have e:j=k:=by simpa using hj
   rw[e];exact hx
 refine⟨⟨fun b hz=>by have:=hp.zlt b hz;omega,fun j b o' hj=>?_,fun j j' b b' o o' h1 h2 r1 r2 hne=>?_,hp.gl.mono hp.zlt (fun _ h=>h) fun b hz hb=>jO hb⟩,⟨by omega,rfl,fun _ h=>h,fun b hb hn=>jO hb,fun b h _=>.inl h,fun b ⟨j,o',hj,hr⟩ hb=>?_⟩,hkr⟩
 ·by_cases e:j=k
  ·subst e;rw[hnew] at hj;cases hj;exact .inr ⟨by omega,hb,fun hz=>by have:=hp.zlt _ hz;omega,.inr ⟨hsp,hl⟩⟩
  ·rw[hold j e] at hj
   rcases hp.obj j b o' hj with h | ⟨q1,q2,q3,q4⟩
   ·exact .inl h
   ·exact .inr ⟨by omega,q2,q3,q4.mono (jO q1) fun _ q5=>hmono q5 (j4 hn (vQ hj).1)⟩
 ·have lt:∀ {i c oc},i≠k->own (fun j=>if j=k then H.size else m j) ((k,ob)::ph) i=some (c,oc)->Go.Idl.real oc->c < H.size:=fun hi h hr=>by
   rw[hold _ hi] at h;rcases hp.obj _ _ _ h with q | q
   ·exact absurd q hr
   ·exact q.1
  by_cases e:j=k
  ·subst e;rw[hnew] at h1;cases h1;have:=lt (Ne.symm hne) h2 r2;omega
  ·by_cases e':j'=k
   ·subst e';rw[hnew] at h2;cases h2;have:=lt hne h1 r1;omega
   ·rw[hold _ e] at h1;rw[hold _ e'] at h2;exact hp.inj j j' b b' o o' h1 h2 r1 r2 hne
 ·by_cases e:j=k
  ·subst e;rw[hnew] at hj;cases hj;omega
  ·rw[hold j e] at hj;exact⟨j,o',hj,hr⟩
theorem Hp.zLS (hp:Hp P Z H (own m ph)){k:Nat}{ob:PO}{o:Obj}{cs:List PV}(hl:qB k ph=some ob)(hsp:spec P ob.el=true)(hgr:ob.gr=false)(hlen:ob.cs.length<=cs.length)
 (hi:qEW (H.put (m k) o) (m k) { ob with cs:=cs }∨MIt P Z (H.put (m k) o) (own m (xY k { ob with cs:=cs } ph)) (m k) { ob with cs:=cs }) :
 Hp P Z (H.put (m k) o) (own m (xY k { ob with cs:=cs } ph)) ∧
  Step Z H (own m ph) Z (H.put (m k) o) (own m (xY k { ob with cs:=cs } ph))∧∀ p,KR p (own m ph) (own m (xY k { ob with cs:=cs } ph)):=by
 have hk:=qO (m:=m) hl;have hre:Go.Idl.real ob:=fun h=>by rw[hgr] at h;cases h.1
 have hold:∀ j,j≠k->own m (xY k { ob with cs:=cs } ph) j=own m ph j:=fun j hj=>by
  unfold own;rw[zF,if_neg (fun h=>hj h.1)]
 have hnew:own m (xY k { ob with cs:=cs } ph) k=some (m k,{ ob with cs:=cs }):=by
  unfold own;rw[zF,if_pos ⟨rfl,by rw[hl];rfl⟩];rfl
 have hkr:∀ p,KR p (own m ph) (own m (xY k { ob with cs:=cs } ph)):=fun p j b' ob' h=>by
  by_cases hj:j=k
  ·subst hj;rw[hnew] at h;cases h;by_cases he:ob.cs.length=cs.length
   ·exact .inl ⟨ob,hk,he,rfl,rfl⟩
   ·exact .inr (.inl ⟨_,ob,hk,by show ob.cs.length < cs.length;omega,rfl,fun _=>rfl⟩)
  ·rw[hold j hj] at h;exact .inl ⟨ob',h,rfl,rfl,rfl⟩
 obtain⟨w1,w2,w3⟩:=hp.zI5 hl hre;have hg:∀ b,b≠m k->(H.put (m k) o).get b=H.get b:=fun b hb=>xS hb
 have hmono:∀ {xs:List PV} {us:List Value},VRL P Z H (own m ph) xs us->VRL P Z (H.put (m k) o) (own m (xY k { ob with cs:=cs } ph)) xs us:=fun h =>
  h.mono (p:=fun _=>false) (H:=H) (H':=H.put (m k) o) (fun _ h=>h) (zNV _) (fun b hz hb=>hg b fun e=>w3 (e ▸ hz)) (hkr _) fun j hj=>by cases hj
 refine⟨⟨fun b hz=>hp.zlt b hz,fun j b o' hj=>?_,fun j j' b b' o o' h1 h2 r1 r2 hne=>?_,hp.gl.mono hp.zlt (fun _ h=>h) fun b hz hb=>hg b fun e=>w3 (e ▸ hz)⟩,⟨zNV _,rfl,fun _ h=>h,fun b hb hn=>hg b fun e=>hn ⟨k,ob,by rw[e];exact hk,hre⟩,fun b h _=>.inl h,fun b ⟨j,o',hj,hr⟩ hb=>?_⟩,hkr⟩
 ·by_cases e:j=k
  ·subst e;rw[hnew] at hj;cases hj;exact .inr ⟨w1,w2,w3,.inr ⟨hsp,hi⟩⟩
  ·rw[hold j e] at hj
   rcases hp.obj j b o' hj with h | ⟨q1,q2,q3,q4⟩
   ·exact .inl h
   ·by_cases hro:Go.Idl.real o'
    ·exact .inr ⟨q1,q2,q3,q4.mono (hg b (hp.inj j k b (m k) o' ob hj hk hro hre e)) fun _ q5=>hmono q5⟩
    ·by_cases hx:o'.gr=true∧o'.cs=[]
     ·exact .inl hx
     ·exact absurd hx hro
 ·have back:∀ {i c oc},own m (xY k { ob with cs:=cs } ph) i=some (c,oc)->Go.Idl.real oc->∃ oc',own m ph i=some (c,oc')∧Go.Idl.real oc':=fun {i c oc} h hr=>by
   by_cases e:i=k
   ·subst e;rw[hnew] at h;cases h;exact⟨ob,hk,hre⟩
   ·rw[hold _ e] at h;exact⟨oc,h,hr⟩
  obtain⟨o1,e1,f1⟩:=back h1 r1;obtain⟨o2,e2,f2⟩:=back h2 r2;exact hp.inj j j' b b' o1 o2 e1 e2 f1 f2 hne
 ·by_cases e:j=k
  ·subst e;rw[hnew] at hj;cases hj;exact⟨j,ob,hk,hre⟩
  ·rw[hold j e] at hj;exact⟨j,o',hj,hr⟩
theorem Hp.zKJ (hp:Hp P Z H (own m ph)){k:Nat}{ob:PO}{o:Obj}{cs:List PV}(hl:qB k ph=some ob)(hsp:spec P ob.el=true)(hgr:ob.gr=false)(hlen:ob.cs.length<=cs.length)(hc:∀ j,yC j cs=true)
 (hi:qEW (H.put (m k) o) (m k) { ob with cs:=cs }) :
 Hp P Z (H.put (m k) o) (own m (xY k { ob with cs:=cs } ph)) ∧
  Step Z H (own m ph) Z (H.put (m k) o) (own m (xY k { ob with cs:=cs } ph))∧∀ p,KR p (own m ph) (own m (xY k { ob with cs:=cs } ph)):=hp.zLS hl hsp hgr hlen (.inl hi)
theorem qO1 {mv:PV}{v:Value}{k c:Nat}{ob:PO}{es:List MapEntry}(hp:Hp P Z H (own m ph))(hv:VR P Z H (own m ph) mv v)(h:sZ P mv ph=some (k,ob,c,es)) :
 qB k ph=some ob∧ob.el=1000000001∧ob.gr=false∧spec P ob.el=true∧v=.map (some (m k))∧H.base<=m k∧ob.cs=wW c es∧∃ a,H.get (m k)=some (.map a c)∧a.toList=es:=by
 unfold sZ at h;split at h
 case h_2=>cases h
 rename_i k';split at h
 case h_2=>cases h
 rename_i ob' hl
 cases hc:(spec P ob'.el&&Nat.beq ob'.el 1000000001) with
 | false=>rw[hc] at h;cases h
 | true =>
   rw[hc] at h;simp only[cond_true] at h;rw[zNT] at hc;have he:ob'.el=1000000001:=zNU hc.2;split at h
   case h_2=>cases h
   rename_i c' es' hm;cases h
   cases hv with
   | mp _ hh =>
     obtain⟨_,rfl⟩:=hh _ _ (qO hl)
     rcases hp.obj k (m k) ob (qO hl) with q | ⟨x1,x2,x3,x4⟩
     ·have:ob.cs=[]:=q.2;rw[this] at hm;cases hm
     ·rcases x4 with ⟨y,_⟩ | ⟨y1,y2⟩
      ·rw[hc.1] at y;cases y
      ·rcases y2 with (⟨q,_⟩ | ⟨_,hgr,a,clk,z1,z2⟩) | ⟨q,_⟩
       ·rw[he] at q;cases q
       ·have e1:mapOf ob.cs=some (clk,a.toList):=by rw[z2];exact qQL clk a.toList
        rw[e1] at hm;cases hm;exact⟨hl,he,hgr,y1,rfl,x2,z2,a,z1,rfl⟩
       ·rw[he] at q;cases q
theorem qU2 {M:Nat->Option (Nat×PO)}{ok b:Bool}{v:Value}:VR P Z H M (q31 ok v b) (q20 ok v b):=by
 unfold q31 q20
 cases ok with
 | false=>exact qAX v
 | true =>
   refine .tup rfl fun i x u h1 h2=>?_
   match i,h1,h2 with
   | 0,h1,h2=>simp at h1 h2;subst h1 h2;exact qAX v
   | 1,h1,h2=>simp at h1 h2;subst h1 h2;exact vV rfl
theorem qSO {t:TypeId}{mv kx x:PV}{v kv:Value}{ok:Bool}(hp:Hp P Z H (own m ph))(hv:VR P Z H (own m ph) mv v)(hk:VR P Z H (own m ph) kx kv)(h:uW P t mv kx ok ph=some x) :
 ∃ u,qAU P t v kv ok H=some u∧VR P Z H (own m ph) x u:=by
 unfold uW at h;split at h
 case h_2=>cases h
 rename_i kt et k ob c es kv' hu hm hkv;obtain⟨h1,h2,h3,h4,rfl,h6,h7,a,h8,rfl⟩:=qO1 hp hv hm;have:=yS hk hkv;subst this;unfold qAU;rw[hu];simp only[h8];split at h
 ·rename_i i hi;rw[hi];simp only;split at h
  ·rename_i e he;cases h;have he2:a[i]?=some e:=by rw[<-zRX];exact he
   rw[he2];exact⟨_,rfl,qU2⟩
  ·cases h
 ·rename_i hi;rw[hi];simp only;split at h
  ·rename_i z hz
   cases hpl:yZ z with
   | false=>rw[hpl] at h;cases h
   | true =>
     rw[hpl] at h;cases h;rw[hz];simp only[hpl,if_true];exact⟨_,rfl,qU2⟩
  ·cases h
 ·cases h
theorem q83 {H:IH}{b:Nat}{ob:PO}{a:Array MapEntry}{c:Nat}(h2:ob.el=1000000001)(h3:ob.gr=false):qEW (H.put b (.map a c)) b { ob with cs:=wW c a.toList } :=
 .inr ⟨h2,h3,a,c,dA,rfl⟩
theorem u7 (c:Nat)(es:List MapEntry):(wW c es).length=3*es.length+1:=by
 show (qDB es).length+1=_;rw[qKV]
theorem qFF {p:Nat->Bool}{t:TypeId}{mv kx x:PV}{v kv xv:Value}{ph':PHp}(hp:Hp P Z H (own m ph))(hv:VR P Z H (own m ph) mv v)(hk:VR P Z H (own m ph) kx kv)(hx:VR P Z H (own m ph) x xv)(h:jI P t mv kx x ph=some ph') :
 Res P Z H m ph p (.tup []) ph' (qLO (jT P t v kv xv H)):=by
 unfold jI at h;split at h
 case h_2=>cases h
 rename_i kt et k ob c es kv' xv' hu hm hkv hxv;obtain⟨h1,h2,h3,h4,rfl,h6,h7,a,h8,rfl⟩:=qO1 hp hv hm;have:=yS hk hkv;subst this;have:=yS hx hxv;subst this;have und:VR P Z H (own m ph) (.tup []) undef:=.tup (vs:=#[]) rfl (fun i x v h=>by simp at h)
 cases hnt:zK xv with
 | false=>rw[hnt] at h;cases h
 | true =>
 rw[hnt] at h;simp only[cond_true] at h
 have pre:jT P t (.map (some (m k))) kv xv H=(match eZ P kt kv a.toList with
  | some (some i)=>match a[i]? with
    | some e=>if Instr.sameBits 10000 e.key kv then some (H.put (m k) (.map (a.modify i fun e=>{ e with key:=kv,val:=xv }) c)) else none
    | none=>none
  | some none=>some (H.put (m k) (.map (a.push { key:=kv,val:=xv,born:=c }) (c+1)))
  | none=>none):=by
  unfold jT;rw[hu];simp only[h8,hnt,h6,decide_true,zOS,if_true];rfl
 rw[pre];split at h
 ·rename_i i hi;rw[hi];simp only;split at h
  ·rename_i e he;have he2:a[i]?=some e:=by rw[<-zRX];exact he
   rw[he2]
   cases hsb:Instr.sameBits 10000 e.key kv with
   | false=>rw[hsb] at h;cases h
   | true =>
     rw[hsb] at h;cases h;simp only[hsb,if_true];have hcs:wW c (a.toList.modify i fun e=>{ e with key:=kv,val:=xv })=wW c (a.modify i fun e=>{ e with key:=kv,val:=xv }).toList:=by rw[Array.toList_modify]
     rw[hcs];obtain⟨r1,r2,r3⟩:=hp.zKJ (o:=.map (a.modify i fun e=>{ e with key:=kv,val:=xv }) c) h1 h4 h3 (by rw[h7,u7,u7,zO3,zO3];first | (rw[Array.size_modify];exact zNV _) | (rw[Array.size_push];omega)) (fun j=>qCA j _ _) (q83 h2 h3);exact⟨undef,_,Z,m,rfl,r1,.tup (vs:=#[]) rfl (fun i x v h=>by simp at h),r2,r3 p⟩
  ·cases h
 ·rename_i hi;rw[hi];simp only;cases h;have hcs:wW (c+1) (a.toList++[⟨kv,xv,c⟩])=wW (c+1) (a.push ⟨kv,xv,c⟩).toList:=by rw[Array.toList_push]
  rw[hcs];obtain⟨r1,r2,r3⟩:=hp.zKJ (o:=.map (a.push ⟨kv,xv,c⟩) (c+1)) h1 h4 h3 (by rw[h7,u7,u7,zO3,zO3];first | (rw[Array.size_modify];exact zNV _) | (rw[Array.size_push];omega)) (fun j=>qCA j _ _) (q83 h2 h3);exact⟨undef,_,Z,m,rfl,r1,.tup (vs:=#[]) rfl (fun i x v h=>by simp at h),r2,r3 p⟩
 ·cases h
theorem qLC {k:Nat}{x:PV}{ph':PHp}(hp:Hp P Z H (own m ph))(hb:H.base<=H.size)(hn:fZ k ph=true)(h:cB P k ph=some (x,ph')):Res P Z H m ph (fun j=>j==k) x ph' (dL none H):=by
 obtain⟨hsp,h⟩:spec P 1000000001=true∧_=_:=by
  unfold cB at h
  cases hc:spec P 1000000001 with
  | false=>rw[hc] at h;cases h
  | true=>rw[hc] at h;exact⟨rfl,h⟩
 obtain⟨rfl,rfl⟩:=fI h;obtain⟨r1,r2,r3⟩:=hp.zKI (k:=k) (ob:=⟨1000000001,false,wW 0 []⟩) (o:=.map #[] 0) hsp (.inl (.inr ⟨rfl,rfl,#[],0,gU,rfl⟩)) hn hb;exact⟨_,_,Z,_,rfl,r1,.mp rfl fun b ob hM=>by rw[wR] at hM;cases hM;exact⟨rfl,rfl⟩,r2,r3⟩
theorem q9J {M:Nat->Option (Nat×PO)}{k:Nat}{b:Nat}(h:∀ b' ob,M k=some (b',ob)->ob.el=1000000001∧b'=b):VR P Z H M (.mp k) (.map (some b)) :=
 .mp rfl fun b' ob hM=>by
  obtain⟨h1,h2⟩:=h b' ob hM;exact⟨h1,by rw[h2]⟩
theorem qYW {ts:Array TypeId}{x y:PV}{v:Value}{S:Option zEM}(hp:Hp P Z H (own m ph))(hx:VR P Z H (own m ph) x v)(hl:q1E P ts x ph=some y->∃ u,S=some (.val u H)∧VR P Z H (own m ph) y u)(hS:∀ w,oV P ts [v] H=some w->S=some w)(h:qC9 P ts x ph=some y):∃ u,S=some (.val u H)∧VR P Z H (own m ph) y u:=by
 unfold qC9 at h;split at h
 case h_2=>exact hl h
 rename_i cs hcs
 cases hm:zAN P ts with
 | false=>rw[hm] at h;cases h
 | true =>
   rw[hm] at h;cases h;unfold rW at hcs;split at hcs
   case h_2=>cases hcs
   rename_i k;split at hcs
   case h_2=>cases hcs
   rename_i ob hlk
   cases hc:(!ob.gr&&(spec P ob.el&&Nat.beq ob.el 1000000001)) with
   | false=>rw[hc] at hcs;cases hcs
   | true =>
     rw[hc] at hcs;cases hcs;rw[zNT,zOE] at hc;obtain⟨zLT,hc⟩:=hc;rw[zNT] at hc;have he:ob.el=1000000001:=zNU hc.2
     cases hx with
     | mp _ hh =>
       obtain⟨_,rfl⟩:=hh _ _ (qO hlk)
       have key:∀ a clk,H.get (m k)=some (.map a clk)->ob.cs=wW clk a.toList->∃ u,S=some (.val u H)∧VR P Z H (own m ph) (fvv (.int .i64 ((ob.cs.length / 3:Nat):Int))) u:=fun a clk z1 z2=>by
        refine⟨goInt a.size,hS _ ?_,?_⟩
        ·unfold zAN at hm;split at hm
         ·rename_i hu;unfold oV;rw[hu];simp only[z1]
         ·cases hm
        ·have:ob.cs.length / 3=a.size:=by rw[z2,u7,zO3];omega
         rw[this];exact vV rfl
       rcases hp.obj k (m k) ob (qO hlk) with q | ⟨x1,x2,x3,x4⟩
       ·rw[zLT] at q;cases q.1
       ·rcases x4 with ⟨y,_⟩ | ⟨y1,y2⟩
        ·rw[hc.1] at y;cases y
        ·rcases y2 with (⟨q,_⟩ | ⟨_,hgr,a,clk,z1,z2⟩) | ⟨q,_⟩
         ·rw[he] at q;cases q
         ·exact key a clk z1 z2
         ·rw[he] at q;cases q
end
end Go.Idl
