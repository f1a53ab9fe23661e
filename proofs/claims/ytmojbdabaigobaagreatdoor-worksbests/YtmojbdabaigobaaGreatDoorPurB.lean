/- Runs told by plain values, part two. Conditions: none. -/
import Derived.Test.YtmojbdabaigobaaGreatDoorPur7
set_option linter.all false
namespace Go.Idl
variable [Gc]
variable {P:Program}{Z:Nat->Prop}{H:IH}{M:Nat->Option (Nat×PO)}{m:Nat->Nat}{ph:PHp}
variable {env:List PV}{zEZ:Env}{k:Nat}{o:Oper}{ph':PHp}{y:PV}
theorem qLL {s n:Nat}{a:Option Addr}{len c:Nat}{vs:List Value}(h:kX s n H (.slice a len c)=some vs)(hk:k<=n):kX s k H (.slice a len c)=some (vs.take (k*s)):=by
 by_cases hk0:k=0
 ·subst hk0;simp[kX,kH]
 ·unfold kX at h ⊢;rw[if_neg (by omega)] at h;rw[if_neg hk0];unfold wT at h ⊢
  cases a with
  | none=>simp only at h;split at h <;> first | omega | cases h
  | some a =>
    simp only at h ⊢;unfold IH.loads at h ⊢;split at h
    ·rename_i cc el fz hg;split at h
     ·cases h;have:k*s<=n*s:=zPO _ hk;rw[if_pos (by omega),zRU]
      congr 2;omega
     ·cases h
    ·cases h
theorem q0B {j:Nat}{ob:PO}(hl:qA j ph=some ob):own m (xW j ob ph)=own m ph:=by
 funext k
 unfold own;rw[zD];by_cases h:k=j
 ·subst h;rw[if_pos ⟨rfl,by rw[hl];rfl⟩,hl]
 ·rw[if_neg (fun h'=>h h'.1)]
theorem qZN {l:List PV}{i:Nat}:yI l i []=l:=by unfold yI;simp
theorem q19 {p:Nat->Bool}{ts:List TypeId}{base x:PV}{vb vx:Value}(hp:Hp P Z H (own m ph))(hbase:VR P Z H (own m ph) base vb)(hx:VR P Z H (own m ph) x vx)(h:qF2 P ts base x ph=some (y,ph')) :
 Res P Z H m ph p y ph' (qDB P ts.toArray [vb,vx] H):=by
 unfold qF2 at h;split at h
 ·rename_i st xt;split at h
  ·rename_i el el2 he he2;split at h
   ·rename_i s hs;split at h
    ·rename_i mm new hnew;obtain⟨vs,a,c,rfl,hf,hr,hlen⟩:=qP4 hp hx hnew
     have icp:∀ bs n cap,qDB P #[st,xt] [.slice bs n cap,.slice a mm c] H=uF bs (Nat.min mm n) (vs.take (Nat.min mm n*(s+1))) H:=fun bs n cap=>by
      unfold qDB;have hs':szT P el=some (s+1):=hs;simp only[zU he,hs',kH,qLL hf (Nat.min_le_left mm n)]
     split at h
     ·rename_i j tt o n;split at h
      ·rename_i ob hl
       cases hc:(Nat.beq ob.el el&&(Nat.beq (tt*(s+1)) ob.cs.length&&(Nat.beq new.length (mm*(s+1))&&new.all fU))) with
       | false=>rw[hc] at h;cases h
       | true =>
         rw[hc] at h;cases h;simp only[zOG] at hc;obtain⟨c1,c2,c3,c4⟩:=hc;have e1:=zOH c1;have e2:=zOH c2;subst e1;have hv1:=hr.one c4;obtain⟨hO,hpos⟩:=wD hbase hl hs e2;rw[show ([st,xt]:List TypeId).toArray=#[st,xt] from rfl]
         have same:∀ s',(s'=some (.val (goInt (Nat.min mm n)) H))->new.take (Nat.min mm n*(s+1))=[]->Res P Z H m ph p (fvv (.int .i64 ((Nat.min mm n:Nat):Int))) (xW j { ob with cs:=yI ob.cs (o*(s+1)) (new.take (Nat.min mm n*(s+1))) } ph) s':=fun s' hs' h0=>by
          rw[h0,qZN];have e:own m (xW j { ob with cs:=ob.cs } ph)=own m ph:=q0B hl;refine⟨goInt (Nat.min mm n),H,Z,m,hs',?_,vR rfl,?_,?_⟩
          ·rw[e];exact hp
          ·rw[e];exact .refl _ _ _
          ·rw[e];exact .refl _ _
         rcases hO with ⟨g1,rfl,rfl,rfl,rfl⟩ | ⟨g1,g2,g3,rfl⟩
         ·rw[icp];exact same _ rfl (by simp)
         ·have hre:=dF e2 hpos g1;obtain⟨w1,w2,w3,ws,q1,q2,q3⟩:=hp.real hl hre (xX hs);rw[icp];by_cases h0:(vs.take (Nat.min mm n*(s+1)))=[]
          ·rw[h0];refine same _ rfl ?_;have:=(hr.take (Nat.min mm n*(s+1))).len;rw[h0] at this;exact zPT.1 this
          ·have hle:(o+n)*(s+1)<=tt*(s+1):=zPO _ g2;rw[zQ2] at hle;have hmn:Nat.min mm n*(s+1)<=n*(s+1):=zPO _ (Nat.min_le_right mm n);have hlt:(new.take (Nat.min mm n*(s+1))).length<=n*(s+1):=by simp only[zPQ];omega
           have h1:(vs.take (Nat.min mm n*(s+1))).all oneCell=true:=by
            rw[zOJ] at hv1 ⊢;exact fun x hx=>hv1 x (zRJ hx)
           obtain⟨r1,r2,r3⟩:=hp.put (cs:=yI ob.cs (o*(s+1)) (new.take (Nat.min mm n*(s+1)))) hl hre (xX hs) (bW (by omega)) (q2.over (hr.take (Nat.min mm n*(s+1))) (o*(s+1))) (qAL q3 h1);refine⟨goInt (Nat.min mm n),_,Z,m,?_,r1,vR rfl,r2,r3 _⟩;unfold uF
           have hne:(vs.take (Nat.min mm n*(s+1))).isEmpty=false:=by
            cases hq:vs.take (Nat.min mm n*(s+1)) with
            | nil=>exact absurd hq h0
            | cons=>rfl
           simp only[hne,zQX,if_false]
           have hst:H.stores (m j) (o*(s+1)) (vs.take (Nat.min mm n*(s+1)))=some (H.put (m j) (.cells (overwrite ws (o*(s+1)) (vs.take (Nat.min mm n*(s+1)))).toArray ob.el (cond ob.gr zO (0,0)))):=by
            unfold IH.stores;rw[q1];simp only[];rw[if_pos];simp only[qUD,h1,w2,decide_true,zQS,decide_eq_true_eq,zQ5];rw[<-q2.len,<- (hr.take (Nat.min mm n*(s+1))).len];omega
           rw[hst]
      ·cases h
     ·cases h;obtain⟨ab,cb,rfl⟩:=qUV hbase;have h0:Nat.min mm 0=0:=zSP mm;refine .same ?_ hp (vR (v:=.int .i64 0) rfl);rw[show ([st,xt]:List TypeId).toArray=#[st,xt] from rfl,icp,h0];cases ab <;> simp[uF,goInt]
     ·cases h;have:=yM hbase rfl;subst this;have h0:Nat.min mm 0=0:=zSP mm;refine .same ?_ hp (vR (v:=.int .i64 0) rfl);rw[show ([st,xt]:List TypeId).toArray=#[st,xt] from rfl,icp,h0];simp[uF,goInt]
     ·cases h
    ·cases h
   ·cases h
  ·cases h
 ·cases h
theorem yC {o:Option PV}(h:pp1 ph o=some (y,ph')):o=some y∧ph'=ph:=by
 unfold pp1 at h;split at h
 ·cases h;exact⟨rfl,rfl⟩
 ·cases h
theorem VRL.of {env:List PV}{zEZ:Env}(he:VRL P Z H M env zEZ):∀ (l:List Operand),VRL P Z H M (l.map (qK env)) (l.map zEZ.val)
 | []=>.nil
 | x::l=>.cons (qM he x) (VRL.of he l)
theorem qFE (h:yA k env=true)(x:Operand):noK k (qK env x)=true:=by
 cases x with
 | tmp t =>
   show noK k ((zL env t).getD .unk)=true;rw[qF]
   cases he:env[t]? with
   | none=>rfl
   | some y=>exact wE h he
 | const v =>
   show noK k (ofC v)=true;unfold ofC q59;split
   ·rename_i cs;cases jZ okC cs.toList with
    | true=>exact rC k _
    | false=>rfl
   ·rename_i cs;cases jZ okC cs.toList with
    | true=>exact rC k _
    | false=>rfl
   ·cases okC v <;> rfl
 | global g=>rfl
 | func g=>rfl
theorem qQ5 {k:Nat}{env:List PV}(h:yA k env=true):∀ (l:List (Nat×Operand)),yA k ((l.map fun p=>(p.1,qK env p.2)).map (·.2))=true
 | []=>rfl
 | p::l=>by simp only[zOZ,yA,qFE h,qQ5 h l,zPG]
theorem Res.up {p q:Nat->Bool}{v:PV}{s:Option zE7}(h:Res P Z H m ph p v ph' s)(hq:∀ j,p j=true->q j=true):Res P Z H m ph q v ph' s:=by
 obtain⟨u,H',Z',m',h1,h2,h3,h4,h5⟩:=h
 exact⟨u,H',Z',m',h1,h2,h3,h4,fun j b ob hM=>by
  rcases h5 j b ob hM with h | h | h
  ·exact .inl h
  ·exact .inr (.inl h)
  ·exact .inr (.inr (hq j h))⟩
def nw (o:Op)(k:Nat):Nat->Bool:=fun j=>needs o&&(j==k)
theorem q5I (hp:Hp P Z H (own m ph))(hb:H.base<=H.size)(he:VRL P Z H (own m ph) env zEZ)(hn:needs o.op=true->yA k env=true∧fT k ph=true)(h:sV P o env k ph=some (y,ph')) :
 Res P Z H m ph (nw o.op k) y ph' (iop P o zEZ H):=by
 obtain⟨d,op,ty,pos,aft,g⟩:=o;have fin:∀ {x:PV} {s:Option zE7},(∃ u,s=some (.val u H)∧VR P Z H (own m ph) x u)->Res P Z H m ph (nw op k) x ph s:=fun ⟨u,h1,h2⟩=>.same h1 hp h2
 have zHY:∀ {x:PV} {s:Option Value},(∃ u,s=some u∧VR P Z H (own m ph) x u)->Res P Z H m ph (nw op k) x ph (zE7.ofO H s):=fun ⟨u,h1,h2⟩=>.same (by rw[h1];rfl) hp h2
 cases op <;> simp only[sV] at h <;> (try (cases h;done)) <;> simp only at hn fin zHY
 case move x=>cases h;exact fin ⟨_,rfl,qM he x⟩
 case assign x=>cases h;exact fin ⟨_,rfl,qM he x⟩
 case pick c a b =>
  split at h
  ·rename_i t ht;cases h;have hc:=qM he c;rw[ht] at hc;have hv:=yM hc rfl;refine fin ⟨cond t (zEZ.val a) (zEZ.val b),?_,?_⟩
   ·show qNB (zEZ.val c) _ _ H=_;rw[hv];rfl
   ·cases t
    ·exact qM he b
    ·exact qM he a
  ·cases h
 case alloc el =>
  obtain⟨n1,n2⟩:=hn rfl;exact (qXQ hp hb n2 h).up fun j hj=>hj
 case box el x =>
  obtain⟨n1,n2⟩:=hn rfl;exact (q5L hp hb n2 (qM he x) (qFE n1 x) h).up fun j hj=>hj
 case build t ps =>
  obtain⟨h1,rfl⟩:=yC h;exact zHY (qWG (qXJ he _) h1)
 case buildSlice t len ps =>
  obtain⟨n1,n2⟩:=hn rfl;exact (qDH hp hb n2 (qXJ he _) (qQ5 n1 _) h).up fun j hj=>hj
 case load t a =>
  obtain⟨h1,rfl⟩:=yC h;exact zHY (qQF hp (qM he a) h1)
 case store t a x =>
  unfold ppS at h;split at h
  ·rename_i ph1 hs;cases h;exact qX7 hp (qM he a) (qM he x) hs
  ·cases h
 case nilCheck x =>
  obtain⟨h1,rfl⟩:=yC h;obtain⟨h2,rfl⟩:=qKY (qM he x) h1;exact fin ⟨_,h2,qM he x⟩
 case binOp op t x z t2 =>
  obtain⟨h1,rfl⟩:=yC h;exact fin (q4Q (qM he x) (qM he z) h1)
 case unOp op t x =>
  obtain⟨h1,rfl⟩:=yC h;exact fin (qQS (qM he x) rfl h1)
 case convert s t x =>
  cases hpt:qRG (qK env x) with
  | true=>rw[hpt] at h;cases h
  | false =>
  rw[hpt] at h;obtain⟨h1,rfl⟩:=yC h;have hx:=qM he x;obtain⟨u,h2,h3⟩:=qQS (o:=⟨d,.convert s t x,ty,pos,aft,g⟩) (env:=zEZ) hx rfl h1;refine fin ⟨u,?_,h3⟩;show gY P _ s t (zEZ.val x) zEZ H=_;unfold gY;split
  ·rename_i a ha;exfalso;unfold bG at h1;split at h1
   ·rename_i b hb';have hv:=yM hx hb';rw[ha] at hv;subst hv;unfold pl at hb';split at hb'
    ·rename_i x0 hx0;cases hb';rw[hx0] at hpt;cases hpt
    ·split at hb' <;> cases hb'
    ·cases hb'
   ·cases h1
  ·exact h2
 case makeFunc fn first cap =>
  obtain⟨h1,rfl⟩:=yC h;exact fin (qH1 (by simpa using VRL.of he first.toList) (by simpa using VRL.of he cap.toList) h1)
 case makeSlice t l c =>
  obtain⟨n1,n2⟩:=hn rfl;exact (qHO hp hb n2 (qM he l) (qM he c) h).up fun j hj=>hj
 case slice t x lo hi mx =>
  cases mx with
  | some mx=>cases h
  | none =>
    simp only at h;split at h
    ·rename_i s hs;have hx:=qM he x;rw[hs] at hx;have hv:=yM hx rfl;split at h
     ·rename_i vs hvs;obtain⟨h1,rfl⟩:=yC h
      have zK4:∀ (w:Option Operand),(∀ a,w=some a->a∈lo.toList++hi.toList)->(w.map fun a=>(Operand.const ((pl (qK env a)).getD undef))).map (Env.val [])=w.map zEZ.val:=fun w hw=>by
       cases w with
       | none=>rfl
       | some a =>
         obtain⟨b,hb'⟩:=qG9 hvs (qK env a) (zO6.2 ⟨a,hw a rfl,rfl⟩);simp only[zOW,hb',zQL];rw[yM (qM he a) hb'];rfl
      have hlo:=zK4 lo (fun a ha=>by subst ha;simp);have hhi:=zK4 hi (fun a ha=>by subst ha;simp)
      obtain⟨u,h2,h3⟩:=qUM (M:=own m _) (Z:=Z) (H:=H) (o:=⟨d,.slice t x lo hi none,ty,pos,aft,g⟩) (env:=zEZ) (by
       have hex:execOp zEZ.val ⟨d,.slice t x lo hi none,ty,pos,aft,g⟩=execOp (Env.val []) (cop (.slice t (.const (.string s)) (lo.map fun a=>.const ((pl (qK env a)).getD undef)) (hi.map fun a=>.const ((pl (qK env a)).getD undef)) none)):=by
        show (do let x <- Instr.sliceAt t (zEZ.val x) (lo.map zEZ.val) (hi.map zEZ.val) none;pure (Next.value x))=(do let x <- Instr.sliceAt t (.string s) ((lo.map fun a=>(Operand.const ((pl (qK env a)).getD undef))).map (Env.val [])) ((hi.map fun a=>(Operand.const ((pl (qK env a)).getD undef))).map (Env.val [])) none;pure (Next.value x));rw[hlo,hhi,hv]
       have hpl:kS zEZ.val (Op.slice t x lo hi none).operands.toList=kS (Env.val []) (cop (.slice t (.const (.string s)) (lo.map fun a=>.const ((pl (qK env a)).getD undef)) (hi.map fun a=>.const ((pl (qK env a)).getD undef)) none)).op.operands.toList:=by
        rw[xD,xD];cases lo <;> cases hi <;> simp_all [Op.operands,cop,Env.val]
       unfold kL;rw[hex]
       simp only[hpl]) h1
      refine fin ⟨u,?_,h3⟩;show wZ P _ t (zEZ.val x) _ _ _ zEZ H=_;rw[hv];exact h2
     ·cases h
    ·rename_i v hne;obtain⟨h1,rfl⟩:=yC h;obtain⟨u,h2,h3⟩:=qRL hp (qM he x) (q78.of he lo) (q78.of he hi) h1;exact fin ⟨u,qM0 h2,h3⟩
 case fieldAddr t x i =>
  obtain⟨h1,rfl⟩:=yC h;exact zHY (qGN (qM he x) h1)
 case indexAddr t x ix =>
  obtain⟨h1,rfl⟩:=yC h;exact zHY (qHS hp (qM he x) (qM he ix) h1)
 case index t x ix =>
  split at h
  ·rename_i s j hs hj;obtain⟨h1,rfl⟩:=yC h;have hx:=qM he x;rw[hs] at hx;have hv:=yM hx rfl;have hv2:=yM (qM he ix) hj;obtain⟨u,h2,h3⟩:=qUM (M:=own m _) (Z:=Z) (H:=H) (o:=⟨d,.index t x ix,ty,pos,aft,g⟩) (env:=zEZ) (by rw[<-hv,<-hv2];rfl) h1;refine fin ⟨u,?_,h3⟩;show wV P _ t (zEZ.val x) _ zEZ H=_;rw[hv];exact h2
  ·obtain⟨h1,rfl⟩:=yC h;obtain⟨u,h2,h3⟩:=qT1 (qM he x) (qM he ix) h1;exact fin ⟨u,qM5 h2,h3⟩
 case makeMap t r =>
  obtain⟨n1,n2⟩:=hn rfl
  cases r with
  | some _=>cases h
  | none=>exact (qMY hp hb n2 h).up fun j hj=>hj
 case lookup t x kx ok =>
  obtain⟨h1,rfl⟩:=yC h;exact zHY (qR0 hp (qM he x) (qM he kx) h1)
 case mapUpdate t mv kx x =>
  unfold ppS at h;split at h
  ·rename_i ph1 hs;cases h;exact qGL hp (qM he mv) (qM he kx) (qM he x) hs
  ·cases h
 case extract t i =>
  obtain⟨h1,rfl⟩:=yC h;exact fin (qMQ (qM he t) h1)
 case call c =>
  obtain⟨cal,args,ts⟩:=c;split at h
  ·rename_i b hbq;simp only at hbq;subst hbq;have two:∀ x z,args.toList=[x,z]->kS zEZ.val args.toList=[zEZ.val x,zEZ.val z]:=fun x z e=>by rw[e];rfl
   unfold uJ at h;split at h
   ·-- append
    split at h
    ·rename_i x z hxz;obtain⟨n1,n2⟩:=hn rfl
     obtain⟨a1,a2,ha,rfl,rfl⟩:∃ a1 a2,args.toList=[a1,a2]∧x=qK env a1∧z=qK env a2:=by
      cases hq:args.toList with
      | nil=>rw[hq] at hxz;cases hxz
      | cons a l =>
        rw[hq] at hxz
        cases l with
        | nil=>cases hxz
        | cons a2 l =>
          cases l with
          | nil=>simp only[zOZ,zQQ,zPD,and_true] at hxz;exact⟨a,a2,rfl,hxz.1.symm,hxz.2.symm⟩
          | cons=>cases hxz
     have hr:=qSD hp hb n2 (qM he a1) (qM he a2) (qFE n1 a2) (qFE n1 a1) h;obtain⟨u,H',Z',m',e1,e2,e3,e4,e5⟩:=hr;refine Res.up (p:=fun j=>j==k) ⟨u,H',Z',m',?_,e2,e3,e4,e5⟩ fun j hj=>hj
     refine bH ?_;rw[two _ _ ha];rw[show ts.toList.toArray=ts from by simp] at e1;exact e1
    ·cases h
   ·-- copy
    split at h
    ·rename_i x z hxz
     obtain⟨a1,a2,ha,rfl,rfl⟩:∃ a1 a2,args.toList=[a1,a2]∧x=qK env a1∧z=qK env a2:=by
      cases hq:args.toList with
      | nil=>rw[hq] at hxz;cases hxz
      | cons a l =>
        rw[hq] at hxz
        cases l with
        | nil=>cases hxz
        | cons a2 l =>
          cases l with
          | nil=>simp only[zOZ,zQQ,zPD,and_true] at hxz;exact⟨a,a2,rfl,hxz.1.symm,hxz.2.symm⟩
          | cons=>cases hxz
     have hr:=q19 (p:=nw (.call ⟨.builtin .copy,args,ts⟩) k) hp (qM he a1) (qM he a2) h;obtain⟨u,H',Z',m',e1,e2,e3,e4,e5⟩:=hr;refine⟨u,H',Z',m',?_,e2,e3,e4,e5⟩;refine bH ?_;rw[two _ _ ha];rw[show ts.toList.toArray=ts from by simp] at e1;exact e1
    ·cases h
   ·-- len
    split at h
    ·rename_i x hx0
     obtain⟨a1,ha,rfl⟩:∃ a1,args=#[a1]∧x=qK env a1:=by
      cases hq:args.toList with
      | nil=>rw[hq] at hx0;cases hx0
      | cons a l =>
        rw[hq] at hx0
        cases l with
        | nil =>
          simp only[zOZ,zQQ,zPD,and_true] at hx0
          exact ⟨a, by have e9:args=args.toList.toArray:=by simp
                       rw[e9,hq],hx0.symm⟩
        | cons=>cases hx0
     subst ha
     cases hst:qY0 P ts with
     | true =>
       rw[hst] at h
       have hnone:yG P .len ⟨.builtin .len,#[a1],ts⟩ (kS zEZ.val #[a1].toList) H=none:=by
        show nL P ts [zEZ.val a1] H=none;unfold qY0 at hst;split at hst
        ·rename_i hu;unfold nL;rw[hu]
        ·cases hst
       obtain⟨e9,hr⟩:=qCQ (d:=d) (pos:=pos) (aft:=aft) (g:=g) he hnone h;subst e9;exact fin hr
     | false =>
       rw[hst] at h;obtain⟨h1,rfl⟩:=yC h;exact fin (q0F hp (qM he a1) (fun hq=>q52 (qM he a1) hq) (fun w hw=>bH hw) h1)
    ·cases h
   ·obtain⟨e9,hr⟩:=qCQ (d:=d) (pos:=pos) (aft:=aft) (g:=g) he rfl h;subst e9;exact fin hr
   ·obtain⟨e9,hr⟩:=qCQ (d:=d) (pos:=pos) (aft:=aft) (g:=g) he rfl h;subst e9;exact fin hr
   ·cases h
  ·cases h
theorem q7Q (hp:Hp P Z H (own m ph))(hb:H.base<=H.size)(he:VRL P Z H (own m ph) env zEZ)(hn:needs o.op=true->yA k env=true∧fT k ph=true)(h:zBM P o env k ph=some (y,ph')) :
 Res P Z H m ph (nw o.op k) y ph' (iop P o zEZ H):=by
 exact q5I hp hb he hn h
end Go.Idl
namespace Go.Idl
variable [Gc]
variable {P:Program}{Z:Nat->Prop}{H:IH}{M:Nat->Option (Nat×PO)}{m:Nat->Nat}{ph:PHp}
variable {Z':Nat->Prop}{k:Nat}{ph':PHp}{v:Value}{vs:List Value}{xs:List PV}
def tH (f:PHp->PV->Option (FV×PHp)):List PV->PHp->Option (List FV×PHp)
 | [],ph=>some ([],ph)
 | x::l,ph=>match f ph x with
   | some (y,ph1)=>(match tH f l ph1 with
     | some (ys,ph2)=>some (y::ys,ph2)
     | none=>none)
   | none=>none
noncomputable def fz1 (P:Program):Nat->PHp->PV->Option (FV×PHp)
 | 0,ph,.f x=>some (x,ph)
 | 0,_,_=>none
 | n+1,ph,.f x=>some (x,ph)
 | n+1,ph,.own k t o c=>(match qA k ph with
   | some ob=>(match szT P ob.el with
     | some s=>cond (Nat.beq (t*s) ob.cs.length) (match tH (fz1 P n) ((ob.cs.drop (o*s)).take (c*s)) (nR k ph) with
       | some (cs,ph')=>some (.l ob.el c cs,ph')
       | none=>none) none
     | none=>none)
   | none=>none)
 | n+1,ph,.asl el k t=>(match qA k ph with
   | some ob=>cond (Nat.beq t ob.cs.length&&(!spec P ob.el&&!ob.gr)) (match tH (fz1 P n) ob.cs (nR k ph) with
      | some (cs,ph')=>some (.l el t cs,ph')
      | none=>none) none
   | none=>none)
 | n+1,_,_=>none
noncomputable def fzP (P:Program)(ph:PHp)(x:PV):Option (PV×PHp):=match x with
 | .agg cs=>(match tH (fz1 P 4) cs ph with
   | some (ys,ph')=>some (.agg (ys.map .f),ph')
   | none=>none)
 | x=>(match fz1 P 4 ph x with
   | some (y,ph')=>some (.f y,ph')
   | none=>none)
noncomputable def fzA (P:Program):List PV->PHp->Option (List PV×PHp)
 | [],ph=>some ([],ph)
 | x::l,ph=>match fzP P ph x with
   | some (y,ph1)=>(match fzA P l ph1 with
     | some (ys,ph2)=>some (y::ys,ph2)
     | none=>none)
   | none=>none
structure Fz (P:Program) (Z:Nat->Prop) (H:IH) (m:Nat->Nat) (ph:PHp) (Z':Nat->Prop) (ph':PHp):Prop where
 hp:Hp P Z' H (own m ph')
 zle:∀ b,Z b->Z' b
 sub:∀ k ob,qA k ph'=some ob->qA k ph=some ob
 zFZ:∀ b,Z' b->Z b∨dH (own m ph) b
theorem Fz.refl (h:Hp P Z H (own m ph)):Fz P Z H m ph Z ph:=⟨h,fun _ h=>h,fun _ _ h=>h,fun _ h=>.inl h⟩
theorem Fz.zHD (a:Fz P Z H m ph Z' ph'){r:Nat×PO}(h:own m ph' k=some r):own m ph k=some r:=by
 obtain⟨b,ob⟩:=r;obtain⟨h1,rfl⟩:=vK h;exact qN (a.sub k ob h1)
theorem Fz.trans {Z1 Z2:Nat->Prop}{ph1 ph2:PHp}(a:Fz P Z H m ph Z1 ph1)(b:Fz P Z1 H m ph1 Z2 ph2):Fz P Z H m ph Z2 ph2 :=
 ⟨b.hp,fun x h=>b.zle x (a.zle x h),fun k ob h=>a.sub k ob (b.sub k ob h),fun x h=>by
   rcases b.zFZ x h with h | ⟨k,ob,h1,h2⟩
   ·exact a.zFZ x h
   ·exact .inr ⟨k,ob,a.zHD h1,h2⟩⟩
theorem Fz.kr (a:Fz P Z H m ph Z' ph')(p:Nat->Bool):KR p (own m ph) (own m ph'):=fun k b ob h=>.inl ⟨ob,a.zHD h,rfl,rfl,rfl⟩
theorem Fz.step {Z':Nat->Prop}{ph':PHp}(a:Fz P Z H m ph Z' ph'):Step Z H (own m ph) Z' H (own m ph') :=
 ⟨zOI _,rfl,a.zle,fun _ _ _=>rfl,fun b h _=>a.zFZ b h,fun b ⟨k,ob,h1,h2⟩ _=>⟨k,ob,a.zHD h1,h2⟩⟩
theorem Fz.vrl (a:Fz P Z H m ph Z' ph')(h:VRL P Z H (Go.Idl.own m ph) xs vs):VRL P Z' H (Go.Idl.own m ph') xs vs :=
 h.mono (p:=fun _=>false) a.zle (zOI _) (fun _ _ _=>rfl) (a.kr _) fun j hj=>by cases hj
theorem Fz.del (h:Hp P Z H (own m ph)){ob:PO}(hl:qA k ph=some ob)(hr:real ob):Fz P Z H m ph (fun b=>Z b∨b=m k) (nR k ph):=by
 have hsub:∀ j o,qA j (nR k ph)=some o->j≠k∧qA j ph=some o:=fun j o h=>by
  rw[yZ] at h;split at h
  ·cases h
  ·rename_i hj;exact⟨hj,h⟩
 have hown:∀ j b o,own m (nR k ph) j=some (b,o)->j≠k∧own m ph j=some (b,o):=fun j b o h=>by
  obtain⟨h1,rfl⟩:=vK h;obtain⟨h2,h3⟩:=hsub j o h1;exact⟨h2,qN h3⟩
 obtain⟨w1,w2,w3⟩:=h.zJP hl hr;refine⟨⟨?_,?_,?_,h.gl.mono h.zlt (fun _ h=>.inl h) fun _ _ _=>rfl⟩,fun b h=>.inl h,fun j o h=>(hsub j o h).2,?_⟩
 ·rintro b (hb | rfl)
  ·exact h.zlt b hb
  ·exact w1
 ·intro j b o hj;obtain⟨h1,h2⟩:=hown j b o hj
  rcases h.obj j b o h2 with h3 | ⟨a1,a2,a3,a4⟩
  ·exact .inl h3
  ·by_cases hro:o.gr=true∧o.cs=[]
   ·exact .inl hro
   ·refine .inr ⟨a1,a2,?_,a4.mono rfl fun _ a5=>a5.mono (p:=fun _=>false) (fun _ h=>.inl h) (zOI _) (fun _ _ _=>rfl) (fun i b' o' hi=>.inl ⟨o',(hown i b' o' hi).2,rfl,rfl,rfl⟩) (fun j hj=>by cases hj)⟩;rintro (hz | rfl)
    ·exact a3 hz
    ·exact h.inj j k _ _ o ob h2 (qN hl) hro hr h1 rfl
 ·intro j j' b b' o o' h1 h2 r1 r2 hne;exact h.inj j j' b b' o o' (hown j b o h1).2 (hown j' b' o' h2).2 r1 r2 hne
 ·rintro b (hz | rfl)
  ·exact .inl hz
  ·exact .inr ⟨k,ob,qN hl,hr⟩
theorem Fz.drop (h:Hp P Z H (own m ph))(hs:∀ k ob,qA k ph'=some ob->qA k ph=some ob):Fz P Z H m ph Z ph':=by
 have hown:∀ j b o,own m ph' j=some (b,o)->own m ph j=some (b,o):=fun j b o h=>by
  obtain⟨h1,rfl⟩:=vK h;exact qN (hs j o h1)
 refine⟨⟨h.zlt,?_,?_,h.gl⟩,fun _ h=>h,hs,fun _ h=>.inl h⟩
 ·intro j b o hj
  rcases h.obj j b o (hown j b o hj) with h3 | ⟨a1,a2,a3,a4⟩
  ·exact .inl h3
  ·exact .inr ⟨a1,a2,a3,a4.mono rfl fun _ a5=>a5.mono (p:=fun _=>false) (fun _ h=>h) (zOI _) (fun _ _ _=>rfl) (fun i b' o' hi=>.inl ⟨o',hown i b' o' hi,rfl,rfl,rfl⟩) (fun j hj=>by cases hj)⟩
 ·intro j j' b b' o o' h1 h2 r1 r2 hne;exact h.inj j j' b b' o o' (hown j b o h1) (hown j' b' o' h2) r1 r2 hne
structure FRL (Z:Nat->Prop) (H:IH) (xs:List FV) (vs:List Value):Prop where
 len:xs.length=vs.length
 val:∀ (i:Nat) x v,xs[i]?=some x->vs[i]?=some v->FR Z H x v
theorem FRL.cons {x:FV}{xs:List FV}(h:FR Z H x v)(t:FRL Z H xs vs):FRL Z H (x::xs) (v::vs) :=
 ⟨by simp[t.len],fun i y u h1 h2=>by
   cases i with
   | zero=>simp at h1 h2;subst h1 h2;exact h
   | succ i=>exact t.val i y u (by simpa using h1) (by simpa using h2)⟩
theorem FRL.map {xs:List FV}(h:FRL Z H xs vs):VRL P Z H M (xs.map .f) vs:=qVX h.len h.val
theorem qA9 {f:PHp->PV->Option (FV×PHp)}(hf:∀ {Z:Nat->Prop} {ph:PHp} {x:PV} {y:FV} {ph':PHp} {v:Value},Hp P Z H (own m ph)->VR P Z H (own m ph) x v->f ph x=some (y,ph')->∃ Z',Fz P Z H m ph Z' ph'∧FR Z' H y v) :
 ∀ {xs:List PV} {vs:List Value} {Z:Nat->Prop} {ph:PHp} {ys:List FV} {ph':PHp},Hp P Z H (own m ph)->VRL P Z H (own m ph) xs vs->tH f xs ph=some (ys,ph')->∃ Z',Fz P Z H m ph Z' ph'∧FRL Z' H ys vs
 | [],vs,Z,ph,ys,ph',hp,hx,h=>by
   simp only[tH,zOP,Prod.mk.injEq] at h;obtain⟨rfl,rfl⟩:=h;rw[hx.zE5];exact⟨Z,.refl hp,rfl,fun i x v h=>by simp at h⟩
 | x::xs,_,Z,ph,ys,ph',hp,hx,h=>by
   obtain⟨v,vs,rfl,h1,h2⟩:=hx.zE2;unfold tH at h;split at h
   ·rename_i y ph1 hy;split at h
    ·rename_i ys' ph2 hys;cases h;obtain⟨Z1,c1,r1⟩:=hf hp h1 hy;obtain⟨Z2,c2,r2⟩:=qA9 hf c1.hp (c1.vrl h2) hys;exact⟨Z2,c1.trans c2,.cons (r1.mono c2.zle (zOI _) fun _ _ _=>rfl) r2⟩
    ·cases h
   ·cases h
theorem qK2:∀ (n:Nat) {Z:Nat->Prop} {ph:PHp} {x:PV} {y:FV} {ph':PHp} {v:Value},Hp P Z H (own m ph)->VR P Z H (own m ph) x v->fz1 P n ph x=some (y,ph')->∃ Z',Fz P Z H m ph Z' ph'∧FR Z' H y v
 | n,Z,ph,.f x,y,ph',v,hp,hx,h=>by
   have:some (x,ph)=some (y,ph'):=by cases n <;> exact h
   cases this
   cases hx with
   | f hx=>exact⟨Z,.refl hp,hx⟩
 | 0,Z,ph,.agg _,y,ph',v,hp,hx,h=>by cases h
 | 0,Z,ph,.tup _,y,ph',v,hp,hx,h=>by cases h
 | 0,Z,ph,.own _ _ _ _,y,ph',v,hp,hx,h=>by cases h
 | 0,Z,ph,.ref _ _ _,y,ph',v,hp,hx,h=>by cases h
 | 0,Z,ph,.lp _ _,y,ph',v,hp,hx,h=>by cases h
 | 0,Z,ph,.fn _ _ _,y,ph',v,hp,hx,h=>by cases h
 | 0,Z,ph,.unk,y,ph',v,hp,hx,h=>by cases h
 | 0,Z,ph,.yl _,y,ph',v,hp,hx,h=>by cases h
 | 0,Z,ph,.bq,y,ph',v,hp,hx,h=>by cases h
 | 0,Z,ph,.mp _,y,ph',v,hp,hx,h=>by cases h
 | 0,Z,ph,.asl _ _ _,y,ph',v,hp,hx,h=>by cases h
 | n+1,Z,ph,.agg _,y,ph',v,hp,hx,h=>by cases h
 | n+1,Z,ph,.tup _,y,ph',v,hp,hx,h=>by cases h
 | n+1,Z,ph,.ref _ _ _,y,ph',v,hp,hx,h=>by cases h
 | n+1,Z,ph,.lp _ _,y,ph',v,hp,hx,h=>by cases h
 | n+1,Z,ph,.fn _ _ _,y,ph',v,hp,hx,h=>by cases h
 | n+1,Z,ph,.unk,y,ph',v,hp,hx,h=>by cases h
 | n+1,Z,ph,.yl _,y,ph',v,hp,hx,h=>by cases h
 | n+1,Z,ph,.bq,y,ph',v,hp,hx,h=>by cases h
 | n+1,Z,ph,.mp _,y,ph',v,hp,hx,h=>by cases h
 | n+1,Z,ph,.own k t o c,y,ph',v,hp,hx,h=>by
   unfold fz1 at h;split at h
   ·rename_i ob hl;split at h
    ·rename_i s hs
     cases hc:Nat.beq (t*s) ob.cs.length with
     | false=>rw[hc] at h;cases h
     | true =>
       rw[hc] at h;simp only[cond_true] at h;have he:=zOH hc;split at h
       ·rename_i cs ph1 hf;cases h;obtain⟨hO,h0⟩:=wD hx hl hs he
        rcases hO with ⟨g1,rfl,rfl,rfl,rfl⟩ | ⟨g1,g2,g3,rfl⟩
        ·have hc0:ob.cs=[]:=zPT.1 (by omega);rw[hc0] at hf;have hf':tH (fz1 P n) [] (nR k ph)=some (cs,ph'):=by simpa using hf
         have:some (([]:List FV),nR k ph)=some (cs,ph'):=hf';cases this;refine⟨Z,.drop hp fun j o hj=>?_,.nil (fun _=>rfl) (fun x h=>by cases h)⟩;rw[yZ] at hj;split at hj
         ·cases hj
         ·exact hj
        ·have hre:=dF he h0 g1;obtain⟨w1,w2,w3,vs,q1,q2,q3⟩:=hp.real hl hre (xX hs);have hcut:=Fz.del hp hl hre;have hle:(o+c)*s<=t*s:=zPO _ g2;rw[zQ2] at hle;obtain⟨Z2,c2,r2⟩:=qA9 (fun a b c=>qK2 n a b c) hcut.hp (hcut.vrl ((q2.drop (o*s)).take (c*s))) hf;refine⟨Z2,hcut.trans c2,.l (vs:=(vs.drop (o*s)).take (c*s)) (c2.zle _ (.inr rfl)) w1 (by omega) (by cases ob.gr <;> simp) ?_ r2.val⟩
         have hcl:cs.length=c*s:=by
          rw[r2.len];simp only[zPQ,zQM];rw[<-q2.len];omega
         rw[hcl];exact xO q1 (by rw[<-q2.len];omega) rfl
       ·cases h
    ·cases h
   ·cases h
 | n+1,Z,ph,.asl el k t,y,ph',v,hp,hx,h=>by
   unfold fz1 at h;split at h
   ·rename_i ob hl
    cases hc:(Nat.beq t ob.cs.length&&(!spec P ob.el&&!ob.gr)) with
    | false=>rw[hc] at h;cases h
    | true =>
      rw[hc] at h;simp only[cond_true] at h;simp only[zOG,zO3] at hc;obtain⟨c1,c2,c3⟩:=hc;have he:=zOH c1;split at h
      ·rename_i cs ph1 hf;cases h;have hre:real ob:=fun q=>by rw[c3] at q;cases q.1
       obtain⟨w1,w2,w3,vs,q1,q2,q3⟩:=hp.real hl hre c2;have hcut:=Fz.del hp hl hre;obtain⟨Z2,c4,r2⟩:=qA9 (fun a b c=>qK2 n a b c) hcut.hp (hcut.vrl q2) hf
       cases hx with
       | asl _ hh =>
         obtain⟨_,hv⟩:=hh _ _ (qN hl);have:=hv he;subst this;refine⟨Z2,hcut.trans c4,.l (vs:=vs) (c4.zle _ (.inr rfl)) w1 (zOI _) (.inl rfl) ?_ r2.val⟩;exact xO q1 (by rw[r2.len,zPF];exact zOI _) (by rw[r2.len,zP1];exact zO5 (zOI _))
      ·cases h
   ·cases h
theorem qKC {x y:PV}(hp:Hp P Z H (own m ph))(hx:VR P Z H (own m ph) x v)(h:fzP P ph x=some (y,ph')):∃ Z',Fz P Z H m ph Z' ph'∧VR P Z' H (fun _=>none) y v:=by
 unfold fzP at h;split at h
 ·rename_i cs;split at h
  ·rename_i ys ph1 hf;cases h
   cases hx with
   | agg hl hc =>
     rename_i vs;obtain⟨Z',c1,r1⟩:=qA9 (vs:=vs.toList) (fun a b c=>qK2 4 a b c) hp ⟨by simpa using hl,fun i x v a b=>hc i x v a (by simpa using b)⟩ hf;have:=(r1.map (P:=P) (M:=fun _=>none)).toA;exact⟨Z',c1,by simpa using this⟩
  ·cases h
 ·split at h
  ·rename_i y' ph1 hf;cases h;obtain⟨Z',c1,r1⟩:=qK2 4 hp hx hf;exact⟨Z',c1,.f r1⟩
  ·cases h
theorem VRL.none {H':IH}(h:VRL P Z H (fun _=>none) xs vs)(hz:∀ b,Z b->Z' b)(hs:H.size<=H'.size)(hg:∀ b,Z b->b < H.size->H'.get b=H.get b){M:Nat->Option (Nat×PO)}(hn:∀ k,M k=none):VRL P Z' H' M xs vs :=
 h.mono (p:=fun _=>false) hz hs hg (fun k b o hk=>by rw[hn] at hk;cases hk) fun j hj=>by cases hj
theorem qIY:∀ {xs:List PV} {vs:List Value} {Z:Nat->Prop} {ph:PHp} {ys:List PV} {ph':PHp},Hp P Z H (own m ph)->VRL P Z H (own m ph) xs vs->fzA P xs ph=some (ys,ph')->∃ Z',Fz P Z H m ph Z' ph'∧VRL P Z' H (fun _=>none) ys vs
 | [],vs,Z,ph,ys,ph',hp,hx,h=>by
   simp only[fzA,zOP,Prod.mk.injEq] at h;obtain⟨rfl,rfl⟩:=h;rw[hx.zE5];exact⟨Z,.refl hp,.nil⟩
 | x::xs,_,Z,ph,ys,ph',hp,hx,h=>by
   obtain⟨v,vs,rfl,h1,h2⟩:=hx.zE2;unfold fzA at h;split at h
   ·rename_i y ph1 hy;split at h
    ·rename_i ys' ph2 hys;cases h;obtain⟨Z1,c1,r1⟩:=qKC hp h1 hy;obtain⟨Z2,c2,r2⟩:=qIY c1.hp (c1.vrl h2) hys;exact⟨Z2,c1.trans c2,.cons (r1.mono (p:=fun _=>false) c2.zle (zOI _) (fun _ _ _=>rfl) (.refl _ _) fun j hj=>by cases hj) r2⟩
    ·cases h
   ·cases h
end Go.Idl
namespace Go.Idl
variable [Gc]
variable {P:Program}{Z:Nat->Prop}{H:IH}{M:Nat->Option (Nat×PO)}{m:Nat->Nat}{ph:PHp}{G:Nat->Bool}
variable {H':IH}{M':Nat->Option (Nat×PO)}{Z':Nat->Prop}{cs env:List PV}{zEZ:Env}{t:TypeId}{v:Value}{vs:Array Value}{x:PV}
theorem Hp.old (h:Hp P Z H (own m ph))(ho:Old H H')(hz:∀ b,Z b->Z' b)(hz1:∀ b,Z' b->b < H'.size)(hz2:∀ b,Z' b->b < H.size->Z b):Hp P Z' H' (own m ph):=by
 refine⟨hz1,fun k b ob hk=>?_,h.inj,h.gl.mono h.zlt hz fun b _ hb=>ho.get b hb⟩
 rcases h.obj k b ob hk with h1 | ⟨a1,a2,a3,a4⟩
 ·exact .inl h1
 ·exact .inr ⟨zOM a1 ho.size,by rw[ho.base];exact a2,fun h=>a3 (hz2 b h a1),a4.mono (ho.get b a1) fun _ a5=>a5.mono (p:=fun _=>false) hz ho.size (fun b _ hb=>ho.get b hb) (.refl _ _) (fun j hj=>by cases hj)⟩
theorem Step.old (ho:Old H H')(hz:∀ b,Z b->Z' b)(hz2:∀ b,Z' b->b < H.size->Z b):Step Z H M Z' H' M :=
 ⟨ho.size,ho.base,hz,fun b hb _=>ho.get b hb,fun b h hb=>.inl (hz2 b h hb),fun _ h _=>h⟩
def q7N:PV->Bool
 | .f (.v (.slice _ _ _))=>false
 | _=>true
def qTK:PV->Bool
 | .agg cs=>cs.all q7N
 | x=>q7N x
def vD:PV->Bool
 | .f (.v x)=>q7N (.f (.v x))
 | .agg cs=>(qJ8 cs).isSome&&cs.all q7N
 | .tup cs=>(plL cs).isSome&&cs.all qTK
 | _=>false
theorem qL4 (h:VR P Z H M x v)(hp:(pl1 x).isSome=true)(Z':Nat->Prop)(H':IH)(M':Nat->Option (Nat×PO)):VR P Z' H' M' x v:=by
 unfold pl1 at hp;split at hp
 ·cases h with
  | f h=>cases h with
    | v a b=>exact .f (.v a b)
 ·cases hp
theorem qFH (Z':Nat->Prop)(H':IH)(M':Nat->Option (Nat×PO)):∀ {xs:List PV} {vs:List Value},VRL P Z H M xs vs->(qJ8 xs).isSome=true->VRL P Z' H' M' xs vs
 | [],vs,h,_=>by rw[h.zE5];exact .nil
 | x::xs,_,h,hp=>by
   obtain⟨v,vs,rfl,h1,h2⟩:=h.zE2;unfold qJ8 at hp;split at hp
   ·rename_i a ha;split at hp
    ·rename_i as has;exact .cons (qL4 h1 (by rw[ha];rfl) _ _ _) (qFH Z' H' M' h2 (by rw[has];rfl))
    ·cases hp
   ·cases hp
theorem VR.zHL (h:VR P Z H M (.agg cs) v):∃ vs,v=.agg vs∧VRL P Z H M cs vs.toList:=by
 cases h with
 | agg hl hc=>exact⟨_,rfl,by simpa using hl,fun i x v a b=>hc i x v a (by simpa using b)⟩
theorem VR.zJA (h:VR P Z H M (.tup cs) v):∃ vs,v=.tuple vs∧VRL P Z H M cs vs.toList:=by
 cases h with
 | tup hl hc=>exact⟨_,rfl,by simpa using hl,fun i x v a b=>hc i x v a (by simpa using b)⟩
theorem VRL.agg' (h:VRL P Z H M cs vs.toList):VR P Z H M (.agg cs) (.agg vs):=.agg (by simpa using h.len) fun i x v a b=>h.val i x v a (by simpa using b)
theorem VRL.zHE (h:VRL P Z H M cs vs.toList):VR P Z H M (.tup cs) (.tuple vs):=.tup (by simpa using h.len) fun i x v a b=>h.val i x v a (by simpa using b)
theorem zBE (h:VR P Z H M x v)(hp:(pl x).isSome=true)(Z':Nat->Prop)(H':IH)(M':Nat->Option (Nat×PO)):VR P Z' H' M' x v:=by
 unfold pl at hp;split at hp
 ·exact qL4 h rfl _ _ _
 ·rename_i cs;obtain⟨vs,rfl,hr⟩:=h.zHL;refine (qFH Z' H' M' hr ?_).agg';split at hp
  ·rename_i as has;rw[has];rfl
  ·cases hp
 ·cases hp
theorem qXV (Z':Nat->Prop)(H':IH)(M':Nat->Option (Nat×PO)):∀ {xs:List PV} {vs:List Value},VRL P Z H M xs vs->(plL xs).isSome=true->VRL P Z' H' M' xs vs
 | [],vs,h,_=>by rw[h.zE5];exact .nil
 | x::xs,_,h,hp=>by
   obtain⟨v,vs,rfl,h1,h2⟩:=h.zE2;unfold plL at hp;split at hp
   ·rename_i a ha;split at hp
    ·rename_i as has;exact .cons (zBE h1 (by rw[ha];rfl) _ _ _) (qXV Z' H' M' h2 (by rw[has];rfl))
    ·cases hp
   ·cases hp
theorem qE4 (h:VR P Z H M x v)(hp:vD x=true)(Z':Nat->Prop)(H':IH)(M':Nat->Option (Nat×PO)):VR P Z' H' M' x v:=by
 unfold vD at hp;split at hp
 ·exact qL4 h rfl _ _ _
 ·obtain⟨vs,rfl,hr⟩:=h.zHL;rw[zOG] at hp;exact (qFH Z' H' M' hr hp.1).agg'
 ·obtain⟨vs,rfl,hr⟩:=h.zJA;rw[zOG] at hp;exact (qXV Z' H' M' hr hp.1).zHE
 ·cases hp
def vT (P:Program):Nat->TypeId->List TypeId
 | 0,t=>[t]
 | n+1,t=>match P.underlying t with
   | some (.struct fields)=>fields.toList.flatMap fun f=>vT P n f.type
   | some (.array k el)=>(List.replicate k (vT P n el)).flatten
   | _=>[t]
def rt0 (P:Program)(t:TypeId):PV->PV
 | .f (.v (.slice none 0 0))=>match zS P t with
   | some el=>.f (.l el 0 [])
   | none=>fvv (.slice none 0 0)
 | x=>x
def rtC [Gc](P:Program)(t:TypeId)(x:PV):PV:=cond (Gc.ol t) x (rt0 P t x)
def rtL (f:TypeId->PV->PV):List TypeId->List PV->List PV
 | t::ts,x::xs=>f t x::rtL f ts xs
 | _,xs=>xs
def rt1 (P:Program)(t:TypeId):PV->PV
 | .agg cs=>.agg (rtL (rtC P) (vT P 8 t) cs)
 | x=>rt0 P t x
def rtA (P:Program)(g:FuncId)(args:List PV):List PV:=match P.funcs[g]? with
 | some fn=>rtL (rt1 P) fn.params.toList args
 | none=>args
theorem q3S (h:VR P Z H M x v):VR P Z H M (rt0 P t x) v:=by
 unfold rt0;split
 ·split
  ·have:=yM h rfl;subst this;exact .f (.nil (fun _=>rfl) fun _ h=>by cases h)
  ·exact h
 ·exact h
theorem q4N (h:VR P Z H M x v):VR P Z H M (rtC P t x) v:=by
 unfold rtC;cases Gc.ol t
 ·exact q3S h
 ·exact h
theorem qEI {f:TypeId->PV->PV}(hf:∀ t x v,VR P Z H M x v->VR P Z H M (f t x) v):∀ {ts:List TypeId} {xs:List PV} {vs:List Value},VRL P Z H M xs vs->VRL P Z H M (rtL f ts xs) vs
 | [],xs,vs,h=>by cases xs <;> exact h
 | t::ts,[],vs,h=>h
 | t::ts,x::xs,vs,h=>by
   obtain⟨v,vs',rfl,h1,h2⟩:=h.zE2;exact .cons (hf t x v h1) (qEI hf h2)
theorem qDQ (h:VR P Z H M x v):VR P Z H M (rt1 P t x) v:=by
 unfold rt1;split
 ·obtain⟨vs,rfl,hr⟩:=h.zHL;exact (qEI (fun t x v h=>q4N h) hr).agg'
 ·exact q3S h
theorem q80 {g:FuncId}{xs:List PV}{vs:List Value}(h:VRL P Z H M xs vs):VRL P Z H M (rtA P g xs) vs:=by
 unfold rtA;split
 ·exact qEI (fun t x v h=>qDQ h) h
 ·exact h
abbrev uT:=FuncId->List PV->Option PV
def Ctr (P:Program)(k:List Value->IH->T (Value×IH))(zGZ:List PV)(r:PV):Prop :=
 ∀ (Z:Nat->Prop) (H:IH) (args:List Value),VRL P Z H (fun _=>none) zGZ args->(∀ b,Z b->b < H.size)->H.base<=H.size->q3E Z H->∀ Q:Value×IH->Prop,
  (∀ v H' (Z':Nat->Prop),Old H H'->(∀ b,Z b->Z' b)->(∀ b,Z' b->b < H'.size)->(∀ b,Z' b->b < H.size->Z b)->VR P Z' H' (fun _=>none) r v->Q (v,H'))->(k args H).holds Q
def qS4:PV->Bool
 | .f _=>true
 | _=>false
def qKP:PV->Bool
 | .agg cs=>cs.all qS4
 | x=>qS4 x
def q41:PV->Bool
 | .tup cs=>cs.all qKP
 | x=>qKP x
theorem qPV (h:VR P Z H M x v)(hp:qS4 x=true):VR P Z H M' x v:=by
 unfold qS4 at hp;split at hp
 ·cases h with
  | f h=>exact .f h
 ·cases hp
theorem bQ (h:VR P Z H M x v)(hp:qKP x=true):VR P Z H M' x v:=by
 unfold qKP at hp;split at hp
 ·obtain⟨vs,rfl,hr⟩:=h.zHL;exact VRL.agg' ⟨hr.len,fun i x v a b=>qPV (hr.val i x v a b) (zOJ.1 hp x (zPP a))⟩
 ·exact qPV h hp
theorem qZA (h:VR P Z H M x v)(hp:q41 x=true):VR P Z H M' x v:=by
 unfold q41 at hp;split at hp
 ·obtain⟨vs,rfl,hr⟩:=h.zJA;exact VRL.zHE ⟨hr.len,fun i x v a b=>bQ (hr.val i x v a b) (zOJ.1 hp x (zPP a))⟩
 ·exact bQ h hp
def qSE (P:Program)(nat:xC)(tab:uT):Prop:=∀ g zGZ r,tab g zGZ=some r->enters P g=true∧q41 r=true∧∃ k,nat g=some k∧Ctr P k zGZ r
structure Nm where
 b:Nat
 p:Nat->Bool
def qNX (P:Program)(g:FuncId):Bool:=match P.funcs[g]? with
 | some fn=>fn.body.isNone&&!(fn.name == "internal/abi.NoEscape" && fn.origin == "")
 | none=>false
def qDE (P:Program)(G:Nat->Bool)(nm:Nm)(g:FuncId)(args:List PV)(ph:PHp)(R:PV->PHp->Prop):Prop :=
 (qNX P g=true∧∃ vs v,plL args=some vs∧(zQ vs&&jZ (kD 2) vs)=true∧z8 P (callFunc g vs.toArray)=some (.value v)∧qH6 v=true∧R (ofC v) ph) ∨
 enters P g=true∧∀ (Z:Nat->Prop) (H:IH) (m:Nat->Nat) (zFC:List Value),Hp P Z H (own m ph)->H.base<=H.size->VRL P Z H (own m ph) args zFC ->
  uS P G g zFC H fun r=>∃ Z' m' pv ph',Hp P Z' r.2 (own m' ph')∧VR P Z' r.2 (own m' ph') pv r.1∧Step Z H (own m ph) Z' r.2 (own m' ph')∧KR nm.p (own m ph) (own m' ph')∧R pv ph'
inductive PE where
 | fail
 | ok (v:PV) (ph:PHp)
 | call (g:FuncId) (args:List PV) (ph:PHp)
 | rnd (l:Nat) (args:List PV) (ph:PHp)
inductive PT where
 | fail
 | ret (env:List PV) (ph:PHp)
 | chk (c:Bool) (t:PT)
 | call (nm:Nm) (g:FuncId) (args:List PV) (ph:PHp) (k:PV->PHp->PT)
 | rnd (l:Nat) (args:List PV) (ph:PHp) (k:PV->PHp->PT)
def PT.holds (P:Program)(G:Nat->Bool)(Q:List PV->PHp->Prop):PT->Prop
 | .fail=>False
 | .ret env ph=>Q env ph
 | .chk c t=>c=true∧t.holds P G Q
 | .call nm g args ph k=>∃ R,qDE P G nm g args ph R∧∀ v ph',R v ph'->(k v ph').holds P G Q
 | .rnd _ _ _ _=>False
noncomputable def aB (P:Program)(tab:uT)(g:FuncId)(args:List PV)(ph:PHp):PE:=match fzA P args ph with
 | some (zF3,ph1)=>(match tab g (rtA P g zF3) with
   | some r=>.ok r (cond (vD r) ph ph1)
   | none=>.fail)
 | none=>.fail
noncomputable def d9 (P:Program)(tab:uT)(inl:FuncId->Bool)(g:FuncId)(args:List PV)(ph:PHp):PE:=cond (inl g) (.call g args ph) (aB P tab g args ph)
noncomputable def oL (P:Program)(tab:uT)(inl:FuncId->Bool)(fv:PV)(args:List PV)(ph:PHp):PE:=match fv with
 | .f (.v (.func (.func g) a c))=>cond (a.toList.isEmpty&&c.toList.isEmpty) (d9 P tab inl g args ph) .fail
 | .yl l=>.rnd l args ph
 | .fn g first cap=>d9 P tab inl g (first++(args++cap)) ph
 | _=>.fail
def peO:Option (PV×PHp)->PE
 | some r=>.ok r.1 r.2
 | none=>.fail
noncomputable def bB (P:Program)(tab:uT)(inl:FuncId->Bool)(k:Nat)(o:Oper)(env:List PV)(ph:PHp):PE:=match o.op with
 | .call ⟨.value f,args,_⟩=>oL P tab inl (qK env f) (args.toList.map (qK env)) ph
 | _=>peO (zBM P o env k ph)
def qO4 (want:Bool):PV->Option Bool
 | .f (.v (.bool b))=>some (b==want)
 | .tup cs=>cond cs.isEmpty (some false) none
 | _=>none
noncomputable def qPA (w:Bool)(env:List PV):Option Tmp->Option Bool
 | some t=>(match zL env t with
   | some v=>qO4 w v
   | none=>none)
 | none=>some false
noncomputable def vH (ds:List (Option Tmp))(o:Oper)(env:List PV):Option Bool:=match o.guard with
 | none=>some true
 | some (j,w)=>qPA w env (qR3 ds j)
def wid (b:Nat):Nat:=cond (Nat.blt b 1000) 1 (cond (Nat.blt b 1000000) 1000 (cond (Nat.blt b 1000000000) 1000000 (cond (Nat.blt b 1000000000000) 1000000000 (cond (Nat.blt b 1000000000000000) 1000000000000 (cond (Nat.blt b 1000000000000000000) 1000000000000000 (cond (Nat.blt b 1000000000000000000000) 1000000000000000000 (cond (Nat.blt b 1000000000000000000000000) 1000000000000000000000 1000000000000000000000000)))))))
def inB (b k:Nat):Bool:=Nat.beq ((k / 1000) % wid b) (b / 1000)
def inP (nm:Nm)(k:Nat):Bool:=nm.p k
def qTT (nm:Nm)(g:FuncId):Nm:=⟨nm.b+wid nm.b*1000*(g+1),fun k=>inB (nm.b+wid nm.b*1000*(g+1)) k&&nm.p k⟩
def zD9 (b k:Nat):Bool:=inB b k&&Nat.blt (k % 1000) 900
mutual
def noP (p:Nat->Bool):PV->Bool
 | .f _=>true
 | .agg cs=>rZ p cs
 | .tup cs=>rZ p cs
 | .own j _ _ _=>!p j
 | .ref j _ _=>!p j
 | .lp _ _=>true
 | .fn _ a b=>rZ p a&&rZ p b
 | .yl _=>true
 | .bq=>true
 | .unk=>true
 | .mp j=>!p j
 | .asl _ j _=>!p j
def rZ (p:Nat->Bool):List PV->Bool
 | []=>true
 | x::l=>noP p x&&rZ p l
end
def q2M (p:Nat->Bool):PHp->Bool
 | []=>true
 | (_,o)::ph=>rZ p o.cs&&q2M p ph
def q4G (nm:Nm)(j:FuncId)(env:List PV)(ph:PHp):Bool:=rZ (inB (nm.b+wid nm.b*1000*(j+1))) env&&((ph.all fun x=>!inB (nm.b+wid nm.b*1000*(j+1)) x.1||nm.p x.1)&&q2M (zD9 (nm.b+wid nm.b*1000*(j+1))) ph)
def qJC (nm:Nm)(g:FuncId)(env:List PV)(ph:PHp):FuncId:=cond (q4G nm g env ph) g (cond (q4G nm (g+333) env ph) (g+333) (cond (q4G nm (g+666) env ph) (g+666) g))
def clean (p:Nat->Bool)(env:List PV):PHp->Bool
 | []=>true
 | (k,_)::ph=>(!p k||yA k env)&&clean p env ph
def qH (nm:Nm)(d:Option Tmp):Nat:=match d with
 | some t=>nm.b+t
 | none=>nm.b
def fresh (nm:Nm)(k:Nat)(env:List PV)(ph:PHp):Bool:=inP nm k&&(yA k env&&fT k ph)
def q8L (c:Bool)(k:Nat)(nm:Nm)(env:List PV)(ph:PHp)(t:PT):PT:=cond c (.chk (fresh nm k env ph) t) t
noncomputable def pops (P:Program)(tab:uT)(inl:FuncId->Bool)(nm:Nm)(ds:List (Option Tmp)):List Oper->List PV->PHp->PT
 | [],env,ph=>.ret env ph
 | o::l,env,ph=>j6 (vH ds o env)
    (match bB P tab inl (qH nm o.dst) o env ph with
     | .fail=>.fail
     | .ok v ph'=>q8L (needs o.op) (qH nm o.dst) nm env ph (pops P tab inl nm ds l (yO env o.dst v) ph')
     | .call g args ph'=>.call (qTT nm (qJC nm g env ph')) g args ph' fun v ph2=>.chk (clean (qTT nm (qJC nm g env ph')).p env ph2) (pops P tab inl nm ds l (yO env o.dst v) ph2)
     | .rnd x args ph'=>.rnd x args ph' fun v ph2=>pops P tab inl nm ds l (yO env o.dst v) ph2)
    (pops P tab inl nm ds l (yO env o.dst (.tup [])) ph) .fail
theorem KR.trans {p:Nat->Bool}{M1 M2 M3:Nat->Option (Nat×PO)}(a:KR p M1 M2)(b:KR p M2 M3):KR p M1 M3:=fun k b' ob' h=>by
 rcases b k b' ob' h with ⟨ob,h1,h2,h3,h4⟩ | ⟨b1,ob,h1,h2,h3,hb1⟩ | h
 ·rcases a k b' ob h1 with ⟨o2,q1,q2,q3,q4⟩ | ⟨b2,o2,q1,q2,q3,qb2⟩ | q
  ·exact .inl ⟨o2,q1,q2.trans h2,q3.trans h3,q4.trans h4⟩
  ·exact .inr (.inl ⟨b2,o2,q1,by omega,q3.trans h3,qb2⟩)
  ·exact .inr (.inr q)
 ·rcases a k b1 ob h1 with ⟨o2,q1,q2,q3,q4⟩ | ⟨b2,o2,q1,q2,q3,qb2⟩ | q
  ·exact .inr (.inl ⟨b1,o2,q1,by omega,q3.trans h3,fun hh=>hb1 (by rw[<-q3];exact hh)⟩)
  ·exact .inr (.inl ⟨b2,o2,q1,by omega,q3.trans h3,fun hh=>(qb2 hh).trans (hb1 (by rw[<-q3];exact hh))⟩)
  ·exact .inr (.inr q)
 ·exact .inr (.inr h)
theorem KR.up {p q:Nat->Bool}{M1 M2:Nat->Option (Nat×PO)}(a:KR p M1 M2)(h:∀ k,p k=true->q k=true):KR q M1 M2:=fun k b ob hk=>by
 rcases a k b ob hk with h1 | h1 | h1
 ·exact .inl h1
 ·exact .inr (.inl h1)
 ·exact .inr (.inr (h k h1))
theorem VRL.zFK (h:VRL P Z H M env zEZ)(hx:VR P Z H M x v)(d:Option Tmp):VRL P Z H M (yO env d x) (zEZ.zFK d v):=by
 cases d with
 | none=>exact h
 | some t =>
   show VRL P Z H M (yR env t x) (yR zEZ t v);rw[qX,qX];exact h.set hx t
theorem rA {ops:Array Oper}{o:Oper}{b:Bool}(he:VRL P Z H M env zEZ)(h:vH (ops.toList.map (·.dst)) o env=some b):kM ops o zEZ=some b:=by
 rw[qMI];unfold vH at h;unfold qN2;split at h
 ·rename_i hg;rw[hg];exact h
 ·rename_i j w hg;rw[hg];simp only;unfold qPA at h;unfold qSN;split at h
  ·rename_i t ht;rw[ht];simp only;split at h
   ·rename_i v hv;rw[qF] at hv;obtain⟨u,h1,h2⟩:=he.get hv;unfold q9Y;rw[qF,h1];unfold qO4 at h;split at h
    ·have:=yM h2 rfl;subst this;exact h
    ·rename_i cs
     cases hc:cs.isEmpty with
     | false=>rw[hc] at h;cases h
     | true =>
       rw[hc] at h;obtain⟨vs,rfl,hr⟩:=h2.zJA
       have:cs=[]:=by cases cs with
        | nil=>rfl
        | cons=>cases hc
       subst this;have h3:=hr.zE5;have:vs=#[]:=by simpa using h3
       subst this;exact h
    ·cases h
   ·cases h
  ·rename_i ht;rw[ht];exact h
end Go.Idl
namespace Go.Idl
variable [Gc]
variable {P:Program}{Z:Nat->Prop}{H:IH}{m:Nat->Nat}{ph:PHp}{G:Nat->Bool}{nat:xC}{tab:uT}{inl:FuncId->Bool}{nm:Nm}
variable {F:Fence}{K:Act->World->Prop}{Q:Value×IH->Prop}{Qx:Exit->Act->World->Prop}{a:Act}{args:List Value}{as env:List PV}{f:Inj}{g:FuncId}{zEZ:Env}{o:Oper}{zFD:Array Operand}{ph':PHp}{ts:Array TypeId}{w:World}{x:Operand}
def jO:Job->IH->T Out:=fun _ _=>.fail
theorem qEF (hs:vP P G nat):kI P G (yK jO nat):=by
 intro g args args' H f w Q hR hG ha h;unfold yK at h;split at h
 ·rename_i k hk;exact hs g k hk args args' H f w Q hR hG ha h
 ·exact h.elim
theorem rP:jA P G jO:=by
 intro l args args' H f w e Q hR hG he ha hq;exact hq.elim
theorem qUH:vP P G fun _=>none:=fun g k h=>by cases h
noncomputable def dY (g:FuncId)(args:List Value)(H:IH)(Q:Value×IH->Prop):xC:=by
 classical
 exact fun g1=>if g1=g then some (fun a h=>if a=args∧h=H then .sp Q .ret else .fail) else none
theorem qUA {H:IH}(h:uS P G g args H Q):vP P G (dY g args H Q):=by
 classical
 intro g1 k hk zK5 args' H1 f1 w1 Q1 hR1 hG1 ha1 hq1;unfold dY at hk;split at hk
 ·rename_i hg1;subst hg1;cases hk;change T.holds Q1 (if zK5=args∧H1=H then T.sp Q T.ret else T.fail) at hq1;split at hq1
  ·rename_i hc;obtain⟨rfl,rfl⟩:=hc;exact (h.mono fun r hr=>hq1 r hr) args' f1 w1 hR1 hG1 ha1
  ·exact hq1.elim
 ·cases hk
theorem qLP {H:IH}:yK jO (dY g args H Q) g args H=.sp Q .ret:=by
 classical
 unfold yK dY;simp
def target (fv:PV)(args:List PV):Option (FuncId×List PV):=match fv with
 | .f (.v (.func (.func g) a c))=>cond (a.toList.isEmpty&&c.toList.isEmpty) (some (g,args)) none
 | .fn g first cap=>some (g,first++(args++cap))
 | _=>none
theorem oD {fv:PV}{args:List PV}{r:PE}(h:oL P tab inl fv args ph=r)(hr:r≠.fail)(hr2:∀ x a p,r≠.rnd x a p):∃ g as,target fv args=some (g,as)∧d9 P tab inl g as ph=r:=by
 unfold oL at h;unfold target;split at h
 ·rename_i g a c
  cases hc:(a.toList.isEmpty&&c.toList.isEmpty) with
  | false=>rw[hc] at h;exact absurd h.symm hr
  | true=>rw[hc] at h;exact⟨g,args,(by simp only;rw[hc];rfl),h⟩
 ·exact absurd h.symm (hr2 _ _ _)
 ·exact⟨_,_,rfl,h⟩
 ·exact absurd h.symm hr
theorem oJ (he:VRL P Z H (own m ph) env zEZ)(h:target (qK env x) (zFD.toList.map (qK env))=some (g,as))(hent:enters P g=true) :
 ∃ zFC,yJ P o ⟨.value x,zFD,ts⟩ zEZ H=some (.enter g zFC H)∧VRL P Z H (own m ph) as zFC:=by
 have hx:=qM he x;have ha:=VRL.of he zFD.toList;unfold target at h;split at h
 ·rename_i g' a c hfv;rw[hfv] at hx;have hv:=yM hx rfl
  cases hc:(a.toList.isEmpty&&c.toList.isEmpty) with
  | false=>rw[hc] at h;cases h
  | true =>
    rw[hc] at h;cases h;rw[zOG] at hc;have e1:a.toList=[]:=by simpa using hc.1
    have e2:c.toList=[]:=by simpa using hc.2
    refine⟨_,qI7 hv hent,?_⟩;rw[e1,e2,xD];simpa [aI] using ha
 ·rename_i g' first cap hfv
  cases h;rw[hfv] at hx
  cases hv:zEZ.val x with
  | func fn fs cs =>
    rw[hv] at hx
    cases hx with
    | fn hf hc hfc hcc =>
      refine⟨_,qI7 hv hent,?_⟩;rw[aI,aI,xD];exact VRL.append ⟨by simpa using hf,fun i x v a b=>hfc i x v a (by simpa using b)⟩ (ha.append ⟨by simpa using hc,fun i x v a b=>hcc i x v a (by simpa using b)⟩)
  | _=>rw[hv] at hx;cases hx
 ·cases h
theorem q79 (nm:Nm){k:Nat}(h:fresh nm k env ph=true):inP nm k=true∧yA k env=true∧fT k ph=true:=by
 unfold fresh at h;simp only[zOG] at h;exact h
theorem qMF (hF:aW F)(hns:vP P G nat)(ht:qSE P nat tab){v:PV}(hR:Rel P f H w)(hG:uX G f)(zE6:qE P f zEZ a.tmps.toList)
 (hok:o.op.operands.toList.all (kV (zA f))=true) (hp:Hp P Z H (own m ph)) (hb:H.base<=H.size) (he:VRL P Z H (own m ph) env zEZ) (hx:bB P tab inl (qH nm o.dst) o env ph=.ok v ph') (hn:needs o.op=true->fresh nm (qH nm o.dst) env ph=true)
 (hK:∀ (Z':Nat->Prop) (m':Nat->Nat) (u:Value) (H':IH) (f':Inj) (v':Value) (w':World),Hp P Z' H' (own m' ph')->VR P Z' H' (own m' ph') v u->VRL P Z' H' (own m' ph') env zEZ->Step Z H (own m ph) Z' H' (own m' ph')->KR (inP nm) (own m ph) (own m' ph') ->
   Rel P f' H' w'->Grow f H w f' H' w'->zE0 P f' u v'->K (a.put o.dst v') w'):o.wpIn F 0 P a w K Qx:=by
 have plain:peO (zBM P o env (qH nm o.dst) ph)=.ok v ph'->o.wpIn F 0 P a w K Qx:=fun hx=>by
  unfold peO at hx;split at hx
  ·rename_i r hr;cases hx;obtain⟨u,H',Z',m',h1,h2,h3,h4,h5⟩:=q7Q hp hb he (fun h=>(q79 nm (hn h)).2) hr;refine vY (run:=jO) (nat:=fun _=>none) (G:=G) (Q:=fun r=>r=(u,H')) hF (qEF qUH) rP hR hG zE6 hok ?_ ?_
   ·unfold sI;rw[h1];rfl
   ·rintro r v' w' f' rfl k1 k2 k3;refine hK Z' m' u H' f' v' w' h2 h3 ?_ h4 ?_ k1 k2 k3
    ·refine he.mono h4.zle h4.size (hp.zGQ h4) h5 fun j hj=>?_
     unfold nw at hj;rw[zOG] at hj;have:j=qH nm o.dst:=by simpa using hj.2
     subst this;exact (q79 nm (hn hj.1)).2.1
    ·refine h5.up fun j hj=>?_
     unfold nw at hj;rw[zOG] at hj;have:j=qH nm o.dst:=by simpa using hj.2
     subst this;exact (q79 nm (hn hj.1)).1
  ·cases hx
 unfold bB at hx;split at hx
 ·rename_i x zFD ts hop;obtain⟨g,as,h1,h2⟩:=oD hx (fun h=>by cases h) (fun _ _ _ h=>by cases h);unfold d9 at h2
  cases hi:inl g with
  | true=>rw[hi] at h2;cases h2
  | false =>
    rw[hi] at h2;simp only[cond_false] at h2;unfold aB at h2;split at h2
    ·rename_i zF3 ph1 hfz;split at h2
     ·rename_i r hr
      have hv:r=v∧cond (vD r) ph ph1=ph':=by
       injection h2 with e1 e2;exact⟨e1,e2⟩
      obtain⟨rfl,hph⟩:=hv;obtain⟨hent,hfr,k,hk,zKB⟩:=ht g _ r hr;obtain⟨zFC,q1,q2⟩:=oJ (o:=o) (ts:=ts) he h1 hent;obtain⟨Z1,c1,r1⟩:=qIY hp q2 hfz
      let Q:Value×IH->Prop:=fun x=>∃ Z':Nat->Prop,Old H x.2∧(∀ b,Z1 b->Z' b)∧(∀ b,Z' b->b < x.2.size)∧(∀ b,Z' b->b < H.size->Z1 b)∧VR P Z' x.2 (fun _=>none) r x.1
      have hQ:(k zFC H).holds Q:=zKB Z1 H zFC (q80 r1) c1.hp.zlt hb c1.hp.gl Q fun v H' Z' a1 a2 a3 a4 a5=>⟨Z',a1,a2,a3,a4,a5⟩
      refine vY (run:=jO) (nat:=nat) (G:=G) (Q:=Q) hF (qEF hns) rP hR hG zE6 hok ?_ ?_
      ·have:iop P o zEZ H=some (.enter g zFC H):=by
        unfold iop;rw[hop];exact q1
       unfold sI;rw[this];show (yK jO nat g zFC H).holds Q;unfold yK;rw[hk];exact hQ
      ·rintro⟨u,H'⟩ v' w' f' ⟨Z',a1,a2,a3,a4,a5⟩ k1 k2 k3
       cases hpl:vD r with
       | true =>
         rw[hpl] at hph;have hph:ph=ph':=hph;subst hph;have z1:∀ b,Z b->b < H'.size:=fun b hb=>zOM (hp.zlt b hb) a1.size
         exact hK Z m u H' f' v' w' (hp.old a1 (fun _ h=>h) z1 (fun _ h _=>h)) (qE4 a5 hpl _ _ _) (he.mono (p:=fun _=>false) (fun _ h=>h) a1.size (fun b _ hb=>a1.get b hb) (.refl _ _) (fun j hj=>by cases hj)) (.old a1 (fun _ h=>h) (fun _ h _=>h)) (.refl _ _) k1 k2 k3
       | false =>
         rw[hpl] at hph;have hph:ph1=ph':=hph;subst hph;exact hK Z' m u H' f' v' w' (c1.hp.old a1 a2 a3 a4) (qZA a5 hfr) ((c1.vrl he).mono (p:=fun _=>false) a2 a1.size (fun b _ hb=>a1.get b hb) (.refl _ _) (fun j hj=>by cases hj)) (c1.step.trans (.old a1 a2 a4)) (c1.kr _) k1 k2 k3
     ·cases h2
    ·cases h2
 ·exact plain hx
theorem q1R {f:Operand}{env:Env}{fs cs:Array Value}(hv:env.val f=.func (.func g) fs cs)(hx:qNX P g=true):fQ P ⟨.value f,zFD,ts⟩ env H=none:=by
 unfold qNX at hx;unfold fQ;simp only[hv];split at hx
 ·rename_i fn hfn;rw[zOG,zO3] at hx;simp only[hfn]
  have h1:fn.body.isSome=false:=by
   cases hb:fn.body with
   | none=>rfl
   | some c=>rw[hb] at hx;cases hx.1
  rw[h1,hx.2];simp
 ·cases hx
theorem qL7:∀ {xs ys:List PV} {vs:List Value},plL (xs++ys)=some vs->∃ a b,vs=a++b∧plL xs=some a∧plL ys=some b
 | [],ys,vs,h=>⟨[],vs,rfl,rfl,h⟩
 | x::xs,ys,vs,h=>by
   rw[zQN] at h;unfold plL at h;split at h
   ·rename_i v hv;split at h
    ·rename_i l hl;cases h;obtain⟨a,b,rfl,h1,h2⟩:=qL7 hl;refine⟨v::a,b,rfl,?_,h2⟩;unfold plL;rw[hv,h1]
    ·cases h
   ·cases h
theorem q4U {vs:List Value}{v:Value}(hop:o.op=.call ⟨.value x,zFD,ts⟩)(he:VRL P Z H (own m ph) env zEZ)(h:target (qK env x) (zFD.toList.map (qK env))=some (g,as))(hx:qNX P g=true)(hp:plL as=some vs)(zK6:(zQ vs&&jZ (kD 2) vs)=true)
 (hs:z8 P (callFunc g vs.toArray)=some (.value v)) (hd:qH6 v=true):iop P o zEZ H=some (.val v H):=by
 have hx0:=qM he x;have ha:=VRL.of he zFD.toList;rw[zOG] at zK6;obtain⟨hpl,hp2⟩:=zK6
 have key:∀ fs cs,zEZ.val x=.func (.func g) fs cs->fs.toList++(kS zEZ.val zFD.toList++cs.toList)=vs->yV (zEZ.val x)=true->iop P o zEZ H=some (.val v H):=fun fs cs hv hvs hpv=>by
  unfold iop;rw[hop];show yJ P o ⟨.value x,zFD,ts⟩ zEZ H=_;unfold yJ;rw[q1R hv hx];unfold kL
  have hpo:zQ (kS zEZ.val o.op.operands.toList)=true:=by
   rw[hop];have e:(Op.call ⟨.value x,zFD,ts⟩).operands.toList=x::zFD.toList:=by simp[Op.operands,Call.operands]
   rw[e,xD,zOZ];rw[xD] at hvs
   have:zQ (zFD.toList.map zEZ.val)=true:=by
    rw[<-hvs] at hpl;unfold zQ at hpl ⊢;rw[xR] at hpl ⊢;exact fun a ha=>hpl a (by simp only[zPJ];exact .inr (.inl ha))
   unfold zQ at this ⊢;rw[vG,hpv,this];rfl
  rw[if_pos hpo]
  have he:execOp zEZ.val o=(do let d <- resolve zEZ.val ⟨.value x,zFD,ts⟩ o.type;invoke d.target d.args):=by
   unfold execOp;rw[hop]
  have hr:resolve zEZ.val ⟨.value x,zFD,ts⟩ o.type=pure { target:=.fn (.func g) cs,args:=fs++zFD.map zEZ.val }:=by
   unfold resolve Deferred.ofValue;simp only[hv]
  have:execOp zEZ.val o=callFunc g vs.toArray:=by
   rw[he,hr];show invoke (.fn (.func g) cs) (fs++zFD.map zEZ.val)=_;unfold invoke;simp only
   congr 1
   apply Array.toList_inj.1;rw[<-hvs,xD];simp
  rw[this,hs];show qB7 H v=_;unfold qB7;rw[hd];rfl
 unfold target at h;split at h
 ·rename_i g' a c hfv;rw[hfv] at hx0;have hv:=yM hx0 rfl
  cases hc:(a.toList.isEmpty&&c.toList.isEmpty) with
  | false=>rw[hc] at h;cases h
  | true =>
    rw[hc] at h;cases h;rw[zOG] at hc;have e1:a.toList=[]:=by simpa using hc.1
    have e2:c.toList=[]:=by simpa using hc.2
    have e3:a=#[]:=by simpa using e1
    have e4:c=#[]:=by simpa using e2
    subst e3 e4;refine key _ _ hv ?_ (by rw[hv];rfl);have:=qH5 ha (by simpa using hp);rw[xD];simpa using this
 ·rename_i g' first cap hfv
  cases h;rw[hfv] at hx0;obtain⟨a,b,rfl,p1,p2⟩:=qL7 hp;obtain⟨b,c,rfl,p3,p4⟩:=qL7 p2
  cases hv:zEZ.val x with
  | func fn fs cs =>
    rw[hv] at hx0
    cases hx0 with
    | fn hf hc hfc hcc =>
      have q1:=qH5 (vs:=fs.toList) ⟨by simpa using hf,fun i x v a b=>hfc i x v a (by simpa using b)⟩ p1;have q2:=qH5 (vs:=cs.toList) ⟨by simpa using hc,fun i x v a b=>hcc i x v a (by simpa using b)⟩ p4;have q3:=qH5 ha (by simpa using p3);refine key fs cs hv (by rw[q1,q2,xD];rw[<-q3]) ?_;rw[hv];rw[xR] at hp2;show (zAJ (.func g)&&(jZ (kD 2) fs.toList&&jZ (kD 2) cs.toList))=true;rw[zOG,zOG,xR,xR];exact⟨rfl,fun y hy=>hp2 y (by rw[q1] at hy;simp[hy]),fun y hy=>hp2 y (by rw[q2] at hy;simp[hy])⟩
  | _=>rw[hv] at hx0;cases hx0
 ·cases h
theorem qP7 {p:Nat->Bool}{env:List PV}:∀ {ph:PHp} {k:Nat},clean p env ph=true->(p k&&(qA k ph).isSome)=true->yA k env=true
 | [],k,_,h=>by simp[qA] at h
 | (j,o)::ph,k,h,hk=>by
   have h:((!p j||yA j env)&&clean p env ph)=true:=h;rw[zOG] at h hk;obtain⟨hk1,hk2⟩:=hk;have hk2:(cond (k==j) (some o) (qA k ph)).isSome=true:=hk2
   cases e:k==j with
   | true =>
     have:k=j:=by simpa using e
     subst this;have:=h.1;rw[hk1] at this;simpa using this
   | false =>
     rw[e] at hk2;exact qP7 h.2 (by rw[hk1];exact hk2)
theorem KR.act {p:Nat->Bool}{M:Nat->Option (Nat×PO)}{m:Nat->Nat}{ph:PHp}(h:KR p M (own m ph)):KR (fun k=>p k&&(qA k ph).isSome) M (own m ph):=fun k b ob hk=>by
 rcases h k b ob hk with q | q | q
 ·exact .inl q
 ·exact .inr (.inl q)
 ·obtain⟨hl,_⟩:=vK hk;exact .inr (.inr (by show (p k&&(qA k ph).isSome)=true;rw[q,hl];rfl))
theorem q73 (hF:aW F){jj:FuncId}{R:PV->PHp->Prop}(hR:Rel P f H w)(hG:uX G f)(zE6:qE P f zEZ a.tmps.toList)
 (hok:o.op.operands.toList.all (kV (zA f))=true) (hp:Hp P Z H (own m ph)) (hb:H.base<=H.size) (he:VRL P Z H (own m ph) env zEZ) (hx:bB P tab inl (qH nm o.dst) o env ph=.call g as ph') (hc:qDE P G (qTT nm jj) g as ph' R) (hcl:∀ v ph2,R v ph2->clean (qTT nm jj).p env ph2=true)
 (hK:∀ (Z':Nat->Prop) (m':Nat->Nat) (v:PV) (ph2:PHp) (u:Value) (H':IH) (f':Inj) (v':Value) (w':World),R v ph2->Hp P Z' H' (own m' ph2)->VR P Z' H' (own m' ph2) v u->VRL P Z' H' (own m' ph2) env zEZ->Step Z H (own m ph) Z' H' (own m' ph2)->KR (inP nm) (own m ph) (own m' ph2) ->
   Rel P f' H' w'->Grow f H w f' H' w'->zE0 P f' u v'->K (a.put o.dst v') w'):o.wpIn F 0 P a w K Qx:=by
 unfold bB at hx;split at hx
 ·rename_i x zFD ts hop;obtain⟨g1,as1,h1,h2⟩:=oD hx (fun h=>by cases h) (fun _ _ _ h=>by cases h);unfold d9 at h2
  cases hi:inl g1 with
  | false =>
    rw[hi] at h2;exfalso;have h2:aB P tab g1 as1 ph=.call g as ph':=h2;unfold aB at h2;split at h2
    ·split at h2 <;> cases h2
    ·cases h2
  | true =>
    rw[hi] at h2;have h2:PE.call g1 as1 ph=.call g as ph':=h2;cases h2
    rcases hc with ⟨hxt,vs,xv,x1,x2,x3,x4,x5⟩ | ⟨hent,hc⟩
    ·refine vY (run:=jO) (nat:=fun _=>none) (G:=G) (Q:=fun r=>r=(xv,H)) hF (qEF qUH) rP hR hG zE6 hok ?_ ?_
     ·unfold sI;rw[q4U hop he h1 hxt x1 x2 x3 x4];rfl
     ·rintro r v' w' f' rfl k1 k2 k3;exact hK Z m _ _ xv H f' v' w' x5 hp (qCX xv) he (.refl _ _ _) (.refl _ _) k1 k2 k3
    obtain⟨zFC,q1,q2⟩:=oJ (o:=o) (ts:=ts) he h1 hent;have hci:=hc Z H m zFC hp hb q2;refine vY (run:=jO) (nat:=dY g zFC H _) (G:=G) hF (qEF (qUA hci)) rP hR hG zE6 hok (Q:=fun r=>∃ Z' m' pv ph',Hp P Z' r.2 (own m' ph')∧VR P Z' r.2 (own m' ph') pv r.1∧Step Z H (own m ph) Z' r.2 (own m' ph')∧KR (qTT nm jj).p (own m ph) (own m' ph')∧R pv ph') ?_ ?_
    ·have:iop P o zEZ H=some (.enter g zFC H):=by
      unfold iop;rw[hop];exact q1
     unfold sI;rw[this];show (yK jO (dY g zFC H _) g zFC H).holds _;rw[qLP];intro r hr;exact hr
    ·rintro⟨u,H'⟩ v' w' f' ⟨Z',m',pv,ph2,b1,b2,b3,b4,b5⟩ k1 k2 k3
     exact hK Z' m' pv ph2 u H' f' v' w' b5 b1 b2 (he.mono b3.zle b3.size (hp.zGQ b3) (KR.act b4) fun j hj=>qP7 (hcl _ _ b5) hj) b3 (b4.up fun k h=>by
      have h:(inB _ k&&nm.p k)=true:=h;rw[zOG] at h
      exact h.2) k1 k2 k3
 ·unfold peO at hx;split at hx <;> cases hx
end Go.Idl
namespace Go.Idl
variable [Gc]
variable {P:Program}{G:Nat->Bool}{nat:xC}{tab:uT}{inl:FuncId->Bool}{nm:Nm}{rd:Bool}{good:FuncId->Bool}
variable {k n:Nat}
structure zFT (P:Program) (good:FuncId->Bool) (nat:xC) (G:Nat->Bool) (tab:uT):Prop where
 s:Setup P good nat G
 t:qSE P nat tab
abbrev PQ:=zF1->List PV->PHp->Prop
def Runs (P:Program)(G:Nat->Bool)(rd:Bool)(nm:Nm)(c:Code)(env:List PV)(ph:PHp)(Q:PQ):Prop :=
 ∀ (Z:Nat->Prop) (H:IH) (m:Nat->Nat) (zEZ:Env),Hp P Z H (own m ph)->H.base<=H.size->VRL P Z H (own m ph) env zEZ ->
  Holds P G rd c zEZ H fun o=>∃ Z' m' env' ph',Hp P Z' o.H (own m' ph')∧VRL P Z' o.H (own m' ph') env' o.env∧Step Z H (own m ph) Z' o.H (own m' ph')∧KR (inP nm) (own m ph) (own m' ph')∧Q o.e env' ph'
theorem Runs.mono {c:Code}{env:List PV}{ph:PHp}{Q Q':PQ}(h:Runs P G rd nm c env ph Q)(hq:∀ e env ph,Q e env ph->Q' e env ph):Runs P G rd nm c env ph Q' :=
 fun Z H m zEZ hp hb he=>(h Z H m zEZ hp hb he).mono fun o ⟨Z',m',env',ph',a,b,c,d,e⟩=>⟨Z',m',env',ph',a,b,c,d,hq _ _ _ e⟩
inductive WkP:List PV->List PV->Prop
 | nil:WkP [] []
 | same {x:PV} {l m:List PV} (h:WkP l m):WkP (x::l) (x::m)
 | any {x:PV} {l m:List PV} (h:WkP l m):WkP (x::l) (.unk::m)
theorem WkP.refl:∀ (l:List PV),WkP l l
 | []=>.nil
 | _::l=>.same (WkP.refl l)
theorem WkP.rel {Z:Nat->Prop}{H:IH}{M:Nat->Option (Nat×PO)}{l m:List PV}(h:WkP l m):∀ {vs:List Value},VRL P Z H M l vs->VRL P Z H M m vs:=by
 induction h with
 | nil=>intro vs hx;exact hx
 | same _ ih=>intro vs hx;obtain⟨v,vs',rfl,h1,h2⟩:=hx.zE2;exact .cons h1 (ih h2)
 | any _ ih=>intro vs hx;obtain⟨v,vs',rfl,h1,h2⟩:=hx.zE2;exact .cons .unk (ih h2)
def qBD (p q:PHp):Prop:=∀ k ob,qA k p=some ob->qA k q=some ob
theorem qBD.refl (p:PHp):qBD p p:=fun _ _ h=>h
theorem qBD.nil (p:PHp):qBD [] p:=fun _ _ h=>by cases h
theorem qBD.cons {p q:PHp}{ob:PO}(h:qBD p q):qBD ((k,ob)::p) ((k,ob)::q):=fun j o hj=>by
 show cond (j==k) (some ob) (qA j q)=some o;have hj:cond (j==k) (some ob) (qA j p)=some o:=hj
 cases e:(j==k) with
 | true=>rw[e] at hj;exact hj
 | false=>rw[e] at hj;exact h j o hj
theorem Runs.cond {v:Operand}{x y:Code}{env:List PV}{ph:PHp}{Q:PQ}{t:Bool}(hok:kV G v=true)(hv:qK env v=fvv (.bool t))(hx:t=true->Runs P G rd nm x env ph Q)(hy:t=false->Runs P G rd nm y env ph Q):Runs P G rd nm (.cond v x y) env ph Q:=by
 intro Z H m zEZ hp hb he;have hr:=qM he v;rw[hv] at hr;exact .cond hok (yM hr rfl) (fun ht=>hx ht Z H m zEZ hp hb he) (fun ht=>hy ht Z H m zEZ hp hb he)
theorem Runs.ret {env:List PV}{ph:PHp}{Q:PQ}(h:Q .ret env ph):Runs P G rd nm .ret env ph Q :=
 fun Z H m zEZ hp hb he=>.ret ⟨Z,m,env,ph,hp,he,.refl _ _ _,.refl _ _,h⟩
def vQ {σ ρ:Type}:Nat->(σ->Option (σ⊕ρ))->σ->Option ρ
 | 0,_,_=>none
 | n+1,f,s=>match f s with
   | some (.inl s')=>vQ n f s'
   | some (.inr r)=>some r
   | none=>none
theorem qEQ {σ ρ:Type}{f:σ->Option (σ⊕ρ)}:∀ {n:Nat} {s:σ} {r:ρ},vQ n f s=some r->vQ (n+1) f s=some r
 | 0,_,_,h=>by cases h
 | n+1,s,r,h=>by
   unfold vQ at h ⊢
   cases hf:f s with
   | none=>rw[hf] at h;cases h
   | some x =>
     rw[hf] at h
     cases x with
     | inl s'=>exact qEQ h
     | inr r=>exact h
theorem qPH {σ ρ:Type}{f:σ->Option (σ⊕ρ)}{s:σ}{r:ρ}(h:vQ n f s=some r)(hk:n<=k):vQ k f s=some r:=by
 induction hk with
 | refl=>exact h
 | step _ ih=>exact qEQ ih
open Classical in
noncomputable def qGO {σ ρ:Type}(f:σ->Option (σ⊕ρ))(s:σ):Option ρ:=if h:∃ r n,vQ n f s=some r then some (Classical.choose h) else none
noncomputable def qVI {σ ρ:Type}(f:σ->Option (σ⊕ρ))(n:Nat):σ->(σ->Option ρ)->Option ρ :=
 Nat.rec (fun s k=>k s) (fun _ ih s k=>Option.rec none (fun x=>Sum.rec (fun s'=>ih s' k) (fun r=>some r) x) (f s)) n
noncomputable def qZ {σ ρ:Type}(f:σ->Option (σ⊕ρ))(s:σ):Option ρ:=qVI f 1000000 s fun s=>qGO f s
theorem q0W {σ ρ:Type}{f:σ->Option (σ⊕ρ)}{s:σ}{r:ρ}(h:vQ n f s=some r):qGO f s=some r:=by
 have he:∃ r n,vQ n f s=some r:=⟨r,n,h⟩
 unfold qGO;rw[dif_pos he];obtain⟨k,hk⟩:=Classical.choose_spec he;have h1:=qPH h (Nat.le_max_left n k);have h2:=qPH hk (Nat.le_max_right n k);rw[h1] at h2;exact h2.symm
theorem qX1 {σ ρ:Type}{f:σ->Option (σ⊕ρ)}{s:σ}{r:ρ}(h:qGO f s=some r):∃ n,vQ n f s=some r:=by
 unfold qGO at h;split at h
 ·rename_i he;cases h;exact Classical.choose_spec he
 ·cases h
theorem qQV {σ ρ:Type}{f:σ->Option (σ⊕ρ)}{r:ρ}:∀ (k:Nat) {n:Nat} {s:σ},vQ n f s=some r->qVI f k s (fun s=>qGO f s)=some r
 | 0,_,_,h=>q0W h
 | _+1,0,_,h=>by cases h
 | k+1,n+1,s,h=>by
   unfold vQ at h;show Option.rec none (fun x=>Sum.rec (fun s'=>qVI f k s' fun s=>qGO f s) (fun r=>some r) x) (f s)=some r
   cases hf:f s with
   | none=>rw[hf] at h;cases h
   | some x =>
     rw[hf] at h
     cases x with
     | inl s'=>exact qQV k h
     | inr r=>exact h
theorem qJY {σ ρ:Type}{f:σ->Option (σ⊕ρ)}{r:ρ}:∀ (k:Nat) {s:σ},qVI f k s (fun s=>qGO f s)=some r->∃ n,vQ n f s=some r
 | 0,_,h=>qX1 h
 | k+1,s,h=>by
   have h:Option.rec none (fun x=>Sum.rec (fun s'=>qVI f k s' fun s=>qGO f s) (fun r=>some r) x) (f s)=some r:=h
   cases hf:f s with
   | none=>rw[hf] at h;cases h
   | some x =>
     rw[hf] at h
     cases x with
     | inl s'=>obtain⟨n,hn⟩:=qJY k h;exact⟨n+1,by unfold vQ;rw[hf];exact hn⟩
     | inr r'=>exact⟨1,by unfold vQ;rw[hf];exact h⟩
theorem qGI {σ ρ:Type}{f:σ->Option (σ⊕ρ)}{s:σ}{r:ρ}(h:vQ n f s=some r):qZ f s=some r:=qQV _ h
theorem bE {σ ρ:Type}{f:σ->Option (σ⊕ρ)}{s:σ}{r:ρ}(h:qZ f s=some r):∃ n,vQ n f s=some r:=qJY _ h
theorem wB {σ ρ:Type}(f:σ->Option (σ⊕ρ))(s:σ):qZ f s=(match f s with
 | some (.inl s')=>qZ f s'
 | some (.inr r)=>some r
 | none=>none):=by
 cases hf:f s with
 | none =>
   cases hl:qZ f s with
   | none=>rfl
   | some r =>
     obtain⟨n,hn⟩:=bE hl
     cases n with
     | zero=>cases hn
     | succ n=>unfold vQ at hn;rw[hf] at hn;cases hn
 | some x =>
   cases x with
   | inr r=>exact qGI (n:=1) (by unfold vQ;rw[hf])
   | inl s' =>
     simp only
     cases hl:qZ f s' with
     | some r =>
       obtain⟨n,hn⟩:=bE hl;exact qGI (n:=n+1) (by unfold vQ;rw[hf];exact hn)
     | none =>
       cases hl2:qZ f s with
       | none=>rfl
       | some r =>
         obtain⟨n,hn⟩:=bE hl2
         cases n with
         | zero=>cases hn
         | succ n=>unfold vQ at hn;rw[hf] at hn;rw[qGI hn] at hl;cases hl
end Go.Idl
namespace Go.Idl
variable [Gc]
variable {P:Program}{G:Nat->Bool}{nat:xC}{tab:uT}{nm:Nm}{good:FuncId->Bool}{Z:Nat->Prop}{H:IH}{M:Nat->Option (Nat×PO)}
variable {env xs:List PV}{g:FuncId}{zEZ:Env}{m:Nat->Nat}{ph:PHp}{v:Value}{vs:List Value}{x y:PV}
theorem FR.inter {Z0:Nat->Prop}{x:FV}(h0:FR Z0 H x v):∀ {S:(Nat->Prop)->Prop},(∀ Z,S Z->FR Z H x v)->FR (fun b=>∀ Z,S Z->Z b) H x v:=by
 induction h0 with
 | v hp h1=>exact fun _=>.v hp h1
 | nil h0 hs=>exact fun _=>.nil h0 hs
 | @l el n cs b o sp c vs hz hb hn hs hl hc ih =>
   intro S hS;by_cases he:cs=[]∧n=0
   ·obtain⟨rfl,rfl⟩:=he;exact .nil (fun h=>by cases h) (fun x h=>by cases h;exact hs)
   ·refine .l (fun Z hZ=>?_) hb hn hs hl fun i x v h1 h2=>ih i x v h1 h2 fun Z hZ=>?_
    ·cases hS Z hZ with
     | nil=>exact absurd ⟨rfl,rfl⟩ he
     | l hz=>exact hz
    ·cases hS Z hZ with
     | nil=>simp at h1
     | l _ _ _ _ hl' hc' =>
       rw[hl] at hl';cases hl';exact hc' i x v h1 h2
theorem VR.inter {Z0:Nat->Prop}{x:PV}{v:Value}(h0:VR P Z0 H (fun _=>none) x v):∀ {S:(Nat->Prop)->Prop},(∀ Z,S Z->VR P Z H (fun _=>none) x v)->VR P (fun b=>∀ Z,S Z->Z b) H (fun _=>none) x v:=by
 induction h0 with
 | f h=>exact fun hS=>.f (h.inter fun Z hZ=>by cases hS Z hZ with | f h=>exact h)
 | agg hl hc ih=>exact fun hS=>.agg hl fun i x v h1 h2=>ih i x v h1 h2 fun Z hZ=>by cases hS Z hZ with | agg _ hc'=>exact hc' i x v h1 h2
 | tup hl hc ih=>exact fun hS=>.tup hl fun i x v h1 h2=>ih i x v h1 h2 fun Z hZ=>by cases hS Z hZ with | tup _ hc'=>exact hc' i x v h1 h2
 | own h1 h=>exact fun _=>.own h1 fun b ob hM=>by cases hM
 | ref h1 h=>exact fun _=>.ref h1 fun b ob hM=>by cases hM
 | mp h1 h=>exact fun _=>.mp h1 fun b ob hM=>by cases hM
 | asl h1 h=>exact fun _=>.asl h1 fun b ob hM=>by cases hM
 | @lp cs off b o vs hz hb hl hc =>
   intro S hS
   have key:∀ Z,S Z->∃ b' o' vs',b'=b∧o'=o∧Z b'∧H.loads b' o' cs.length=some vs'∧∀ (i:Nat) x v,cs[i]?=some x->vs'[i]?=some v->FR Z H x v:=fun Z hZ=>by
    generalize hq:(Value.pointer (some ⟨b,o+off,none⟩))=q at hS;have h:=hS Z hZ
    cases h with
    | lp hz' hb' hl' hc' =>
      simp only[Value.pointer.injEq,zOP,Addr.mk.injEq,and_true] at hq;obtain⟨rfl,hq⟩:=hq;exact⟨_,_,_,rfl,by omega,hz',hl',hc'⟩
   refine .lp (fun Z hZ=>?_) hb hl fun i x v h1 h2=>(hc i x v h1 h2).inter fun Z hZ=>?_
   ·obtain⟨b',o',vs',rfl,rfl,q,_⟩:=key Z hZ;exact q
   ·obtain⟨b',o',vs',rfl,rfl,_,q2,q3⟩:=key Z hZ;rw[hl] at q2;cases q2;exact q3 i x v h1 h2
 | fn hf hc hfc hcc i1 i2=>exact fun hS=>.fn hf hc (fun i x v h1 h2=>i1 i x v h1 h2 fun Z hZ=>by cases hS Z hZ with | fn _ _ q _=>exact q i x v h1 h2) (fun i x v h1 h2=>i2 i x v h1 h2 fun Z hZ=>by cases hS Z hZ with | fn _ _ _ q=>exact q i x v h1 h2)
 | yl=>exact fun _=>.yl
 | bq=>exact fun _=>.bq
 | unk=>exact fun _=>.unk
def q5O (P:Program)(H:IH)(xs:List PV)(vs:List Value):Nat->Prop:=fun b=>∀ Z,VRL P Z H (fun _=>none) xs vs->Z b
theorem q6K (h:VRL P Z H (fun _=>none) xs vs):VRL P (q5O P H xs vs) H (fun _=>none) xs vs :=
 ⟨h.len,fun i x v h1 h2=>(h.val i x v h1 h2).inter (S:=fun Z=>VRL P Z H (fun _=>none) xs vs) fun Z hZ=>hZ.val i x v h1 h2⟩
theorem qTB (h:VRL P Z H (fun _=>none) xs vs){b:Nat}(hb:q5O P H xs vs b):Z b:=hb Z h
noncomputable def q2N (P:Program)(env:List PV)(ph:PHp):ResultVar->Option PV
 | .tmp t=>some ((zL env t).getD .unk)
 | .cell a t=>fA P t ((zL env a).getD .unk) ph
noncomputable def qGM (P:Program)(env:List PV)(ph:PHp):List ResultVar->Option (List PV)
 | []=>some []
 | r::l=>match q2N P env ph r with
   | some v=>(match qGM P env ph l with
     | some vs=>some (v::vs)
     | none=>none)
   | none=>none
def qC2:List PV->PV
 | [v]=>v
 | vs=>.tup vs
noncomputable def vX (P:Program)(fn:Func)(env:List PV)(ph:PHp):Option PV:=(qGM P env ph fn.results.toList).map fun xs=>qC2 (rtL (rt1 P) fn.resultTypes.toList xs)
theorem q05 {r:ResultVar}(hp:Hp P Z H (own m ph))(he:VRL P Z H (own m ph) env zEZ)(h:q2N P env ph r=some x):∃ v,qZV P zEZ H r=some v∧VR P Z H (own m ph) x v:=by
 cases r with
 | tmp t=>cases h;exact⟨_,rfl,qM he (.tmp t)⟩
 | cell a t=>exact qQF hp (qM he (.tmp a)) h
theorem qP2 {m:Nat->Nat}{ph:PHp}{env:List PV}{zEZ:Env}(hp:Hp P Z H (own m ph))(he:VRL P Z H (own m ph) env zEZ):∀ {l:List ResultVar} {xs:List PV},qGM P env ph l=some xs->∃ vs,qM4 P zEZ H l=some vs∧VRL P Z H (own m ph) xs vs
 | [],xs,h=>by cases h;exact⟨[],rfl,.nil⟩
 | r::l,xs,h=>by
   unfold qGM at h;split at h
   ·rename_i x hx;split at h
    ·rename_i xs' hxs;cases h;obtain⟨v,h1,h2⟩:=q05 hp he hx;obtain⟨vs,h3,h4⟩:=qP2 hp he hxs;exact⟨v::vs,by unfold qM4;rw[h1,h3],.cons h2 h4⟩
    ·cases h
   ·cases h
theorem mH {fn:Func}(hp:Hp P Z H (own m ph))(he:VRL P Z H (own m ph) env zEZ)(h:vX P fn env ph=some x):∃ v,jX P fn zEZ H=some v∧VR P Z H (own m ph) x v:=by
 unfold vX at h;obtain⟨xs,h1,rfl⟩:=zOR.1 h;obtain⟨vs,h2,h3⟩:=qP2 hp he h1
 replace h3:=qEI (f:=rt1 P) (ts:=fn.resultTypes.toList) (fun t x v h=>qDQ h) h3
 revert h3
 generalize rtL (rt1 P) fn.resultTypes.toList xs=xs;intro h3;refine⟨one vs,by unfold jX;rw[h2];rfl,?_⟩
 match xs,h3 with
 | [],h3=>rw[h3.zE5];exact VRL.zHE (vs:=#[]) .nil
 | [x],h3 =>
   obtain⟨v,vs',rfl,a,b⟩:=h3.zE2;rw[b.zE5];exact a
 | x::y::l,h3 =>
   obtain⟨v,vs',rfl,a,b⟩:=h3.zE2;obtain⟨v2,vs2,rfl,a2,b2⟩:=b.zE2;exact VRL.zHE (vs:=(v::v2::vs2).toArray) (by simpa using VRL.cons a (VRL.cons a2 b2))
noncomputable def fzR (P:Program)(ph:PHp):PV->Option PV
 | .tup xs=>(match fzA P xs ph with
   | some (ys,_)=>some (.tup ys)
   | none=>none)
 | x=>(match fzP P ph x with
   | some (y,_)=>some y
   | none=>none)
theorem zA0 (hp:Hp P Z H (own m ph))(hx:VR P Z H (own m ph) x v)(h:fzR P ph x=some y):∃ Z' ph',Fz P Z H m ph Z' ph'∧VR P Z' H (fun _=>none) y v:=by
 unfold fzR at h;split at h
 ·split at h
  ·rename_i ys ph' hf;cases h;obtain⟨vs,rfl,hr⟩:=hx.zJA;obtain⟨Z',h1,h2⟩:=qIY hp hr hf;exact⟨Z',ph',h1,h2.zHE⟩
  ·cases h
 ·split at h
  ·rename_i y' ph' hf;cases h;obtain⟨Z',h1,h2⟩:=qKC hp hx hf;exact⟨Z',ph',h1,h2⟩
  ·cases h
structure PEn (α:Type) where
 p:α->PV
 inj:∀ x y,p x=p y->x=y
 uniq:∀ (P:Program) (Z Z':Nat->Prop) (H:IH) (x y:α) (v:Value),VR P Z H (fun _=>none) (p x) v->VR P Z' H (fun _=>none) (p y) v->x=y
structure AEn (α:Type) where
 p:α->List PV
 inj:∀ x y,p x=p y->x=y
 uniq:∀ (P:Program) (Z Z':Nat->Prop) (H:IH) (x y:α) (vs:List Value),VRL P Z H (fun _=>none) (p x) vs->VRL P Z' H (fun _=>none) (p y) vs->x=y
def AEn.nil:AEn Unit:=⟨fun _=>[],fun _ _ _=>rfl,fun _ _ _ _ _ _ _ _ _=>rfl⟩
def AEn.cons {α β:Type}(a:PEn α)(b:AEn β):AEn (α×β):=⟨fun x=>a.p x.1::b.p x.2,fun x y h=>by
 simp only[zPD] at h
 exact Prod.ext (a.inj _ _ h.1) (b.inj _ _ h.2),fun P Z Z' H x y vs h1 h2=>by
 obtain⟨v,vs',rfl,a1,b1⟩:=h1.zE2;obtain⟨v',vs2,e,a2,b2⟩:=h2.zE2;simp only[zPD] at e;obtain⟨rfl,rfl⟩:=e
 exact Prod.ext (a.uniq P Z Z' H _ _ _ a1 a2) (b.uniq P Z Z' H _ _ _ b1 b2)⟩
open Classical in
noncomputable def ofF {α β:Type}(a:AEn α)(F:α->Option β)(r:β->PV)(xs:List PV):Option PV :=
 if h:∃ x,xs=a.p x then (F (Classical.choose h)).map r else none
theorem qN7 {α β:Type}{a:AEn α}{F:α->Option β}{r:β->PV}(x:α):ofF a F r (a.p x)=(F x).map r:=by
 have h:∃ y,a.p x=a.p y:=⟨x,rfl⟩
 unfold ofF;rw[dif_pos h];rw[<-a.inj _ _ (Classical.choose_spec h)]
theorem qX0 {α β:Type}{a:AEn α}{F:α->Option β}{r:β->PV}(h:ofF a F r xs=some y):∃ x z,xs=a.p x∧F x=some z∧y=r z:=by
 unfold ofF at h;split at h
 ·rename_i he;obtain⟨z,h1,h2⟩:=zOR.1 h;exact⟨_,z,Classical.choose_spec he,h1,h2.symm⟩
 ·cases h
def q3M (tab:uT)(g:FuncId)(F:List PV->Option PV):uT:=fun x xs=>cond (Nat.beq x g) (F xs) (tab x xs)
def zBG {α β:Type}(P:Program)(a:AEn α)(F:α->Option β)(x:α)(args:List Value)(H:IH):Prop:=(∃ Z:Nat->Prop,VRL P Z H (fun _=>none) (a.p x) args∧∀ b,Z b->b < H.size)∧H.base<=H.size∧GlH H∧∃ y,F x=some y
def qZD {α β:Type}(P:Program)(a:AEn α)(F:α->Option β)(r:β->PV)(x:α)(args:List Value)(H:IH)(v:Value)(H':IH):Prop:=Old H H'∧∃ y,F x=some y∧∃ Z':Nat->Prop,(∀ b,Z' b->b < H'.size)∧(∀ b,Z' b->b < H.size->q5O P H (a.p x) args b∨q9V b)∧VR P Z' H' (fun _=>none) (r y) v
def zDV {α β:Type}(P:Program)(G:Nat->Bool)(g:FuncId)(nm:Nm)(a:AEn α)(F:α->Option β)(r:β->PV):Prop :=
 ∃ fn c,P.funcs[g]?=some fn∧fn.body=some c∧∀ x y,F x=some y->∃ N,fn.ntmps=N∧Runs P G false nm c (a.p x++List.replicate (N - (a.p x).length) .unk) [] fun e env ph=>(e=.normal∨e=.ret)∧∃ r0,vX P fn env ph=some r0∧fzR P ph r0=some (r y)
theorem zFT.zGN {α β:Type}(s:zFT P good nat G tab)(a:AEn α)(F:α->Option β)(r:β->PV)(hent:enters P g=true)(hfr:∀ y,q41 (r y)=true)
 (h:∀ (x:α) (y:β) (args:List Value) (H:IH),F x=some y->(∃ Z:Nat->Prop,VRL P Z H (fun _=>none) (a.p x) args∧∀ b,Z b->b < H.size)->H.base<=H.size->GlH H->uS P G g args H fun q=>qZD P a F r x args H q.1 q.2) :
 zFT P good (zGW nat g (fun (x:α×List Value) args H=>x.2=args∧zBG P a F x.1 args H) (fun x H v H'=>qZD P a F r x.1 x.2 H v H')) G (q3M tab g (ofF a F r)):=by
 have uniq:∀ (x y:α×List Value) (args:List Value) (H:IH),(x.2=args∧zBG P a F x.1 args H)->(y.2=args∧zBG P a F y.1 args H)->x=y:=by
  rintro⟨x,as⟩ ⟨y,bs⟩ args H ⟨e1,⟨Z1,h1,_⟩,_⟩ ⟨e2,⟨Z2,h2,_⟩,_⟩;simp only at e1 e2 h1 h2;subst e1 e2;rw[a.uniq P Z1 Z2 H x y _ h1 h2]
 refine⟨s.s.zGW _ _ ?_,?_⟩
 ·rintro⟨x,as⟩ args H ⟨e1,⟨Z0,h0,hz0⟩,hb,hgl,y,hy⟩;simp only at e1 h0 hy;subst e1;exact h x y as H hy ⟨Z0,h0,hz0⟩ hb hgl
 ·intro g' zGZ r' ht;unfold q3M at ht
  cases hg:Nat.beq g' g with
  | false =>
    rw[hg] at ht;obtain⟨t1,t2,k,t3,t4⟩:=s.t g' zGZ r' ht;refine⟨t1,t2,k,?_,t4⟩;unfold zGW;rw[hg];exact t3
  | true =>
    rw[hg] at ht;have hg':g'=g:=zOH hg;subst hg';obtain⟨x,y,rfl,hF,rfl⟩:=qX0 ht;refine⟨hent,hfr y,_,by unfold zGW;rw[hg];rfl,?_⟩;intro Z H args hv hz hb hgl Q hQ
    have hpre:(fun (x:α×List Value) args H=>x.2=args∧zBG P a F x.1 args H) (x,args) args H:=⟨rfl,⟨Z,hv,hz⟩,hb,hgl.h hz,y,hF⟩
    rw[zBJ uniq hpre];rintro⟨v,H'⟩ ⟨o1,y',hy',Z',o2,o3,o4⟩;simp only at hy' o4;rw[hF] at hy';cases hy';refine hQ v H' (fun b=>Z b∨Z' b) o1 (fun b h=>.inl h) ?_ ?_ ?_
    ·rintro b (h | h)
     ·exact zOM (hz b h) o1.size
     ·exact o2 b h
    ·rintro b (h | h) hlt
     ·exact h
     ·rcases o3 b h hlt with q | ⟨o,q⟩
      ·exact qTB hv q
      ·exact (hgl b o q).1
    ·exact o4.mono (p:=fun _=>false) (fun _ h=>.inr h) (zOI _) (fun _ _ _=>rfl) (.refl _ _) fun j hj=>by cases hj
theorem zFT.add {α β:Type}(s:zFT P good nat G tab){nm:Nm}(a:AEn α)(F:α->Option β)(r:β->PV)(hent:enters P g=true)(hfr:∀ y,q41 (r y)=true)(h:zDV P G g nm a F r) :
 zFT P good (zGW nat g (fun (x:α×List Value) args H=>x.2=args∧zBG P a F x.1 args H) (fun x H v H'=>qZD P a F r x.1 x.2 H v H')) G (q3M tab g (ofF a F r)) :=
 s.zGN a F r hent hfr fun x y as H hy ⟨Z0,h0,hz0⟩ hb hgl=>by
  obtain⟨fn,c,q1,q2,q3⟩:=h;obtain⟨N,hN,hrun⟩:=q3 x y hy;have hf:=(q6K h0).mono (p:=fun _=>false) (Z':=fun b=>q5O P H (a.p x) as b∨q9V b) (fun _ h=>.inl h) (zOI _) (fun _ _ _=>rfl) (.refl _ _) (fun j hj=>by cases hj)
  have zMF:∀ b,q5O P H (a.p x) as b∨q9V b->b < H.size:=fun b hb=>by
   rcases hb with hb | ⟨o,hb⟩
   ·exact hz0 b (qTB h0 hb)
   ·exact (hgl b o hb).1
  refine uS.of q1 q2 hN ?_
  have hp0:Hp P (fun b=>q5O P H (a.p x) as b∨q9V b) H (own (fun _=>0) []):=⟨zMF,fun k b ob hk=>(by cases hk),fun k k' b b' ob ob' hk=>(by cases hk),fun g o hg=>⟨.inr ⟨o,hg⟩,(hgl g o hg).2⟩⟩
  have e0:own (fun _=>0) []=fun _=>none:=rfl
  have hlen:=h0.len
  have zE6:VRL P (fun b=>q5O P H (a.p x) as b∨q9V b) H (own (fun _=>0) []) (a.p x++List.replicate (N - (a.p x).length) .unk) (as++List.replicate (N - as.length) undef):=by
   rw[hlen];refine VRL.append hf ⟨by simp,fun i z v h1 h2=>?_⟩;rw[zQ8] at h1;split at h1
   ·cases h1;exact .unk
   ·cases h1
  refine (hrun _ H _ _ hp0 hb zE6).mono ?_;rintro o ⟨Z',m',env',ph',a1,b1,c1,d1,he,r0,hr0,hfz⟩;refine⟨he,?_⟩;obtain⟨v,v1,v2⟩:=mH a1 b1 hr0;obtain⟨Z2,ph2,w1,w2⟩:=zA0 a1 v2 hfz;have noO:∀ b,¬ dH (own (fun _=>0) []) b:=fun b ⟨k,ob,hk,_⟩=>by cases hk
  refine⟨v,v1,⟨c1.size,c1.base,fun b hb=>c1.keep b hb (noO b)⟩,y,hy,Z2,w1.hp.zlt,fun b hb hlt=>?_,w2⟩;rcases w1.zFZ b hb with h | h
  ·rcases c1.zFZ b h hlt with h | h
   ·exact h
   ·exact absurd h (noO b)
  ·exact absurd (c1.onew b h hlt) (noO b)
end Go.Idl
namespace Go.Idl
variable [Gc]
variable {P:Program}{G:Nat->Bool}{nat:xC}{tab:uT}{inl:FuncId->Bool}{nm:Nm}{good:FuncId->Bool}{Z:Nat->Prop}{H:IH}{M:Nat->Option (Nat×PO)}
variable {args:List PV}{c:Int}{ph':PHp}{v:Value}{w:Bool}{ws:List Value}{xs:List FV}
structure C1 (α:Type) where
 f:α->FV
 inj:∀ x y,f x=f y->x=y
 uniq:∀ (Z Z':Nat->Prop) (H:IH) (x y:α) (v:Value),FR Z H (f x) v->FR Z' H (f y) v->x=y
theorem qLG {x:Value}(h:FR Z H (.v x) v):v=x:=by cases h;rfl
def C1.plain {α:Type}(g:α->Value)(hi:∀ x y,g x=g y->x=y):C1 α:=⟨fun x=>.v (g x),fun x y h=>hi x y (by injection h),fun Z Z' H x y v a b=>hi x y ((qLG a).symm.trans (qLG b))⟩
def C1.int (k:IntKind):C1 Int:=.plain (fun z=>.int k z) fun x y h=>by injection h
theorem FRL.zE2 {x:FV}(h:FRL Z H (x::xs) ws):∃ v vs,ws=v::vs∧FR Z H x v∧FRL Z H xs vs:=by
 cases ws with
 | nil=>have:=h.len;simp at this
 | cons v vs=>exact⟨v,vs,rfl,h.val 0 x v rfl rfl,by have:=h.len;simpa using this,fun i y u h1 h2=>h.val (i+1) y u (by simpa using h1) (by simpa using h2)⟩
theorem FRL.split {ys:List FV}(h:FRL Z H (xs++ys) ws):FRL Z H xs (ws.take xs.length)∧FRL Z H ys (ws.drop xs.length):=by
 have hl:=h.len;rw[zO0] at hl;refine⟨⟨by simp;omega,fun i x v h1 h2=>?_⟩,⟨by simp;omega,fun i x v h1 h2=>?_⟩⟩
 ·have hi:=(zOO.1 h1).1;rw[zP6,if_pos hi] at h2;exact h.val i x v (by rw[zP0 hi];exact h1) h2
 ·rw[zP9] at h2;exact h.val (xs.length+i) x v (by rw[zPX (by omega)];simpa using h1) h2
theorem qN1 {α:Type}(c:C1 α){Z':Nat->Prop}:∀ (xs ys:List α) (vs:List Value),FRL Z H (xs.map c.f) vs->FRL Z' H (ys.map c.f) vs->xs=ys
 | [],[],_,_,_=>rfl
 | [],y::ys,vs,a,b=>by have h1:=a.len;have h2:=b.len;simp at h1 h2;omega
 | x::xs,[],vs,a,b=>by have h1:=a.len;have h2:=b.len;simp at h1 h2;omega
 | x::xs,y::ys,vs,a,b=>by
   obtain⟨v,vs',rfl,a1,a2⟩:=a.zE2;obtain⟨v',vs2,e,b1,b2⟩:=b.zE2;simp only[zPD] at e;obtain⟨rfl,rfl⟩:=e;rw[c.uniq _ _ H x y _ a1 b1,qN1 c xs ys _ a2 b2]
theorem map_inj {α:Type}(c:C1 α):∀ (xs ys:List α),xs.map c.f=ys.map c.f->xs=ys
 | [],[],_=>rfl
 | [],y::ys,h=>by cases h
 | x::xs,[],h=>by cases h
 | x::xs,y::ys,h=>by
   simp only[zOZ,zPD] at h;rw[c.inj x y h.1,map_inj c xs ys h.2]
theorem nN {el n n':Nat}{cs cs':List FV}{Z':Nat->Prop}(a:FR Z H (.l el n cs) v)(b:FR Z' H (.l el n' cs') v):n=n'∧∃ vs vs',FRL Z H cs vs∧FRL Z' H cs' vs'∧(cs.length=cs'.length->vs=vs'):=by
 cases a with
 | nil h0 hs =>
   cases b with
   | nil=>exact⟨rfl,[],[],⟨rfl,fun i x v h=>by simp at h⟩,⟨rfl,fun i x v h=>by simp at h⟩,fun _=>rfl⟩
   | l hz hb hn hs' hl hc=>exact⟨rfl,[],_,⟨rfl,fun i x v h=>by simp at h⟩,⟨(kE hl).symm,hc⟩,fun e=>by
      have:=kE hl;rw[<-e] at this
      exact (zPT.1 this).symm⟩
 | l hz hb hn hs hl hc =>
   cases b with
   | nil=>exact⟨rfl,_,[],⟨(kE hl).symm,hc⟩,⟨rfl,fun i x v h=>by simp at h⟩,fun e=>by
      have:=kE hl;rw[e] at this
      exact zPT.1 this⟩
   | l hz' hb' hn' hs' hl' hc'=>exact⟨rfl,_,_,⟨(kE hl).symm,hc⟩,⟨(kE hl').symm,hc'⟩,fun e=>by
      rw[e] at hl;rw[hl] at hl'
      exact zPC hl'⟩
def C1.list {α:Type}(el:TypeId)(c:C1 α):C1 (List α):=⟨fun xs=>.l el xs.length (xs.map c.f),fun xs ys h=>map_inj c xs ys (by injection h),fun Z Z' H xs ys v a b=>by
 obtain⟨h1,vs,vs',h2,h3,h4⟩:=nN a b;have:=h4 (by simp[h1]);subst this
 exact qN1 c xs ys _ h2 h3⟩
theorem q96:∀ (l m:List FV),l.map PV.f=m.map PV.f->l=m
 | [],[],_=>rfl
 | [],y::m,h=>by cases h
 | x::l,[],h=>by cases h
 | x::l,y::m,h=>by
   simp only[zOZ,zPD,PV.f.injEq] at h;rw[h.1,q96 l m h.2]
theorem qAZ {vs:List Value}(h:VRL P Z H M (xs.map .f) vs):FRL Z H xs vs:=⟨by simpa using h.len,fun i x v h1 h2=>by
 have:=h.val i (.f x) v (by simp[h1]) h2
 cases this with
 | f h=>exact h⟩
section
variable {ds:List (Option Tmp)}{o:Oper}{l:List Oper}{env:List PV}{ph:PHp}
noncomputable def qRH (P:Program)(tab:uT)(inl:FuncId->Bool)(nm:Nm)(ds:List (Option Tmp))(o:Oper)(l:List Oper)(env:List PV)(ph:PHp):PE->PT
 | .fail=>.fail
 | .ok v ph'=>q8L (needs o.op) (qH nm o.dst) nm env ph (pops P tab inl nm ds l (yO env o.dst v) ph')
 | .call g args ph'=>.call (qTT nm (qJC nm g env ph')) g args ph' fun v ph2=>.chk (clean (qTT nm (qJC nm g env ph')).p env ph2) (pops P tab inl nm ds l (yO env o.dst v) ph2)
 | .rnd x args ph'=>.rnd x args ph' fun v ph2=>pops P tab inl nm ds l (yO env o.dst v) ph2
noncomputable def pgo (P:Program)(tab:uT)(inl:FuncId->Bool)(nm:Nm)(ds:List (Option Tmp))(o:Oper)(l:List Oper)(env:List PV)(ph:PHp)(c:Option Bool):PT :=
 j6 c (qRH P tab inl nm ds o l env ph (bB P tab inl (qH nm o.dst) o env ph)) (pops P tab inl nm ds l (yO env o.dst (.tup [])) ph) .fail
theorem qWL:pops P tab inl nm ds (o::l) env ph=pgo P tab inl nm ds o l env ph (vH ds o env):=by
 unfold pops pgo qRH;cases bB P tab inl (qH nm o.dst) o env ph <;> rfl
theorem qZ8:pgo P tab inl nm ds o l env ph (some true)=qRH P tab inl nm ds o l env ph (bB P tab inl (qH nm o.dst) o env ph):=Eq.trans rfl rfl
theorem qT3:pgo P tab inl nm ds o l env ph (some false)=pops P tab inl nm ds l (yO env o.dst (.tup [])) ph:=Eq.trans rfl rfl
theorem qPO {v:PV}:qRH P tab inl nm ds o l env ph (.ok v ph')=q8L (needs o.op) (qH nm o.dst) nm env ph (pops P tab inl nm ds l (yO env o.dst v) ph'):=Eq.trans rfl rfl
theorem qRW {g:FuncId}:qRH P tab inl nm ds o l env ph (.call g args ph')=.call (qTT nm (qJC nm g env ph')) g args ph' fun v ph2=>.chk (clean (qTT nm (qJC nm g env ph')).p env ph2) (pops P tab inl nm ds l (yO env o.dst v) ph2):=Eq.trans rfl rfl
theorem qYR {x:Nat}:qRH P tab inl nm ds o l env ph (.rnd x args ph')=.rnd x args ph' fun v ph2=>pops P tab inl nm ds l (yO env o.dst v) ph2:=Eq.trans rfl rfl
noncomputable def qN4 (w:Bool):Option PV->Option Bool
 | some v=>qO4 w v
 | none=>none
theorem qM9 {t:Tmp}:qPA w env (some t)=qN4 w (zL env t):=by
 show (match zL env t with | some v=>qO4 w v | none=>none)=qN4 w (zL env t);cases zL env t <;> rfl
theorem qA2 {b:Bool}:qN4 w (some (fvv (.bool b)))=some (b==w):=rfl
theorem qR2:qN4 w (some (.tup []))=some false:=rfl
theorem aC (n:Nat):Nat.beq n n=true:=by simp
end
section
variable {t t2:TypeId}{k:IntKind}{a b:Int}{ph:PHp}
theorem aQ {op:BinOp}(h:dU op k a b=some v)(hv:ofC v=fvv v):jT P op t t2 (fvv (.int k a)) (fvv (.int k b)) ph=some (fvv v):=by
 rw[<-hv];unfold jT;simp only[fvv,pl,q8O,cond_false];rw[q7B h];rfl
theorem zAV:jT P .lss t t2 (fvv (.int k a)) (fvv (.int k b)) ph=some (fvv (.bool (decide (a < b)))):=aQ rfl rfl
theorem zA7:jT P .leq t t2 (fvv (.int k a)) (fvv (.int k b)) ph=some (fvv (.bool (decide (a<=b)))):=aQ rfl rfl
theorem q9U:jT P .gtr t t2 (fvv (.int k a)) (fvv (.int k b)) ph=some (fvv (.bool (decide (b < a)))):=aQ rfl rfl
theorem zAZ:jT P .geq t t2 (fvv (.int k a)) (fvv (.int k b)) ph=some (fvv (.bool (decide (b<=a)))):=aQ rfl rfl
theorem q82:jT P .eql t t2 (fvv (.int k a)) (fvv (.int k b)) ph=some (fvv (.bool (a==b))):=aQ rfl rfl
theorem zA9:jT P .neq t t2 (fvv (.int k a)) (fvv (.int k b)) ph=some (fvv (.bool (a != b))):=aQ rfl rfl
theorem q9W:jT P .add t t2 (fvv (.int k a)) (fvv (.int k b)) ph=some (fvv (.int k (k.wrap (a+b)))):=aQ rfl rfl
theorem q81:jT P .sub t t2 (fvv (.int k a)) (fvv (.int k b)) ph=some (fvv (.int k (k.wrap (a - b)))):=aQ rfl rfl
theorem zAU:jT P .mul t t2 (fvv (.int k a)) (fvv (.int k b)) ph=some (fvv (.int k (k.wrap (a*b)))):=aQ rfl rfl
def zB1 (k:IntKind)(a b:Int):Option Int:=if b=0 then none else some (k.wrap (a.tdiv b))
def q7V (a b:Int):Option Int:=if b=0 then none else some (a.tmod b)
theorem zBI (h:zB1 k a b=some c):jT P .quo t t2 (fvv (.int k a)) (fvv (.int k b)) ph=some (fvv (.int k c)):=by
 unfold zB1 at h;split at h
 ·cases h
 ·rename_i hb;cases h;exact aQ (v:=.int k (k.wrap (a.tdiv b))) (by unfold dU;simp only[if_neg hb]) rfl
theorem zBF (h:q7V a b=some c):jT P .rem t t2 (fvv (.int k a)) (fvv (.int k b)) ph=some (fvv (.int k c)):=by
 unfold q7V at h;split at h
 ·cases h
 ·rename_i hb;cases h;exact aQ (v:=.int k (a.tmod b)) (by unfold dU;simp only[if_neg hb]) rfl
theorem zAK {x:Bool}:bG P (fun a=>.unOp .not t a) (fvv (.bool x))=some (fvv (.bool !x)):=rfl
end
end Go.Idl
namespace Go.Idl
variable [Gc]
variable {P:Program}{G:Nat->Bool}{nat:xC}{tab:uT}{nm:Nm}
def dl1:PV->List Nat
 | .own k _ _ _=>[k]
 | .ref k _ _=>[k]
 | .mp k=>[k]
 | .asl _ k _=>[k]
 | _=>[]
noncomputable def dlO (o:Oper)(env:List PV):List Nat:=o.op.operands.toList.flatMap fun x=>dl1 (qK env x)
theorem pU {o:Oper}{env:List PV}{x:Operand}{k:Nat}(hx:x∈o.op.operands)(hk:k∈dl1 (qK env x)):k∈dlO o env:=List.mem_flatMap.2 ⟨x,zPW.1 hx,hk⟩
theorem qBX {env env':List PV}{ps:List (Nat×Operand)}(h:∀ x∈ps.map (·.2),qK env x=qK env' x):(ps.map fun p=>(p.1,qK env p.2))=ps.map fun p=>(p.1,qK env' p.2) :=
 zP3 fun p hp=>by rw[h p.2 (zO6.2 ⟨p,hp,rfl⟩)]
theorem qST (P:Program){env env':List PV}{x:Operand}(h:qK env x=qK env' x)(ha:(pl (qK env x)).isSome=true):(qRJ env).val x=(qRJ env').val x:=by
 obtain⟨a,ha⟩:=zPN.1 ha;rw[dK P ha,dK P (h ▸ ha)]
theorem qJQ {b:Builtin}{args:Array Operand}{ts:Array TypeId}{env env':List PV}{ty:TypeId}{ph:PHp}(h:∀ x∈args,qK env x=qK env' x) :
 vS P b ⟨.builtin b,args,ts⟩ (args.toList.map (qK env)) env ty ph=vS P b ⟨.builtin b,args,ts⟩ (args.toList.map (qK env')) env' ty ph:=by
 have e:args.toList.map (qK env)=args.toList.map (qK env'):=zP3 fun x hx=>h x (zPW.2 hx)
 unfold vS;rw[<-e]
 cases hp:plL (args.toList.map (qK env)) with
 | none=>rfl
 | some vs =>
   simp only
   have:kL P (cop (.call ⟨.builtin b,args,ts⟩) ty) (qRJ env) H00=kL P (cop (.call ⟨.builtin b,args,ts⟩) ty) (qRJ env') H00:=by
    refine rG (fun cs b h=>by cases h) fun x hx=>?_
    have hx':x∈args:=by simpa [Op.operands,Call.operands,cop] using hx
    obtain⟨a,ha⟩:=qG9 hp (qK env x) (zO6.2 ⟨x,by simpa using hx',rfl⟩);exact qST P (h x hx') (by rw[ha];rfl)
   rw[this]
theorem qR6 {o:Oper}{env env':List PV}{k:Nat}{ph:PHp}(h:∀ x∈o.op.operands,qK env x=qK env' x):sV P o env k ph=sV P o env' k ph:=by
 obtain⟨d,op,ty,pos,aft,g⟩:=o;cases op <;> simp only[Op.operands] at h <;> simp only[sV]
 case move x=>rw[h x (by simp)]
 case assign x=>rw[h x (by simp)]
 case pick c a b=>rw[h c (by simp),h a (by simp),h b (by simp)]
 case box el x=>rw[h x (by simp)]
 case build t ps=>rw[qBX fun x hx=>h x (by simpa using hx)]
 case buildSlice t n ps=>rw[qBX fun x hx=>h x (by simpa using hx)]
 case load t a=>rw[h a (by simp)]
 case store t a x=>rw[h a (by simp),h x (by simp)]
 case nilCheck x=>rw[h x (by simp)]
 case binOp op t x y t2=>rw[h x (by simp),h y (by simp)]
 case unOp op t x=>rw[h x (by simp)]
 case convert s t x=>rw[h x (by simp)]
 case makeFunc fn first cap =>
  rw[zP3 (l:=first.toList) fun x hx=>h x (zQU.2 (.inl (zPW.2 hx))),zP3 (l:=cap.toList) fun x hx=>h x (zQU.2 (.inr (zPW.2 hx)))]
 case makeSlice t l c=>rw[h l (by simp),h c (by simp)]
 case slice t x lo hi mx =>
  cases mx with
  | some m=>rfl
  | none =>
    have e1:lo.map (qK env)=lo.map (qK env'):=by cases lo <;> simp_all
    have e2:hi.map (qK env)=hi.map (qK env'):=by cases hi <;> simp_all
    have e3:(lo.toList++hi.toList).map (qK env)=(lo.toList++hi.toList).map (qK env'):=by cases lo <;> cases hi <;> simp_all
    have e4:lo.map (fun a=>Operand.const ((pl (qK env a)).getD undef))=lo.map fun a=>Operand.const ((pl (qK env' a)).getD undef):=by cases lo <;> simp_all
    have e5:hi.map (fun a=>Operand.const ((pl (qK env a)).getD undef))=hi.map fun a=>Operand.const ((pl (qK env' a)).getD undef):=by cases hi <;> simp_all
    simp only[h x (by simp),e1,e2,e3,e4,e5]
 case fieldAddr t x i=>rw[h x (by simp)]
 case indexAddr t x ix=>rw[h x (by simp),h ix (by simp)]
 case index t x ix=>rw[h x (by simp),h ix (by simp)]
 case extract t i=>rw[h t (by simp)]
 case makeMap t r=>cases r <;> rfl
 case lookup t x kx ok=>rw[h x (by simp),h kx (by simp)]
 case mapUpdate t m kx x=>rw[h m (by simp),h kx (by simp),h x (by simp)]
 case call c =>
  obtain⟨cal,args,ts⟩:=c;simp only[Call.operands] at h;have ha:∀ x∈args,qK env x=qK env' x:=fun x hx=>h x (by cases cal <;> simp[hx])
  have e:args.toList.map (qK env)=args.toList.map (qK env'):=zP3 fun x hx=>ha x (zPW.2 hx)
  cases cal with
  | builtin b =>
    have hD:=qJQ (P:=P) (b:=b) (ts:=ts) (ty:=ty) (ph:=ph) ha;simp only[uJ]
    cases b <;> simp only[e] at hD ⊢ <;> first | rfl | exact hD | skip
    rw[<-e] at hD;rw[<-e]
    cases hl:args.toList.map (qK env) with
    | nil=>rfl
    | cons x l =>
      cases l with
      | nil =>
        simp only;rw[hl] at hD;rw[hD]
      | cons=>rfl
  | invoke r n=>rfl
  | value f=>rfl
theorem yH {l k:Nat}{ob:PO}{ph:PHp}(h:l≠k):qA l ((k,ob)::ph)=qA l ph:=by
 have:(l==k)=false:=by simpa using h
 show cond (l==k) (some ob) (qA l ph)=_;rw[this];rfl
theorem qDX {k:Nat}{ob:PO}{v y:PV}{ph ph':PHp}(h:qDG k ob v ph=some (y,ph')){l:Nat}(hl:l≠k):qA l ph'=qA l ph:=by
 obtain⟨_,rfl⟩:=fE h;exact yH hl
theorem q5S {m:PV}{ph:PHp}{k:Nat}{r:PO×Nat×List MapEntry}(h:sU P m ph=some (k,r)):m=.mp k:=by
 unfold sU at h;split at h
 ·split at h
  ·rename_i ob _
   cases hc:(spec P ob.el&&Nat.beq ob.el 1000000001) with
   | false=>rw[hc] at h;cases h
   | true =>
     rw[hc] at h;simp only[cond_true] at h;split at h
     ·cases h;rfl
     ·cases h
  ·cases h
 ·cases h
theorem q4F {k l:Nat}{ob:PO}{ph:PHp}(h:l≠k):qA l (xW k ob ph)=qA l ph:=by rw[zD,if_neg (fun e=>h e.1)]
theorem qID {t:TypeId}{m kx x:PV}{ph ph':PHp}(h:jM P t m kx x ph=some ph'){l:Nat}(hl:l ∉ dl1 m):qA l ph'=qA l ph:=by
 unfold jM at h;split at h
 case h_2=>cases h
 rename_i kt et k ob c es kv xv hu hm hkv hxv;have e:=q5S hm;subst e;have hne:l≠k:=fun e=>hl (by rw[e];simp[dl1])
 cases hc:zK xv with
 | false=>rw[hc] at h;cases h
 | true =>
   rw[hc] at h;simp only[cond_true] at h;split at h
   ·split at h
    ·rename_i e _
     cases hs:Instr.sameBits 10000 e.key kv with
     | false=>rw[hs] at h;cases h
     | true=>rw[hs] at h;cases h;exact q4F hne
    ·cases h
   ·cases h;exact q4F hne
   ·cases h
theorem q8V {o:Oper}{env:List PV}{k:Nat}{ph ph':PHp}{v:PV}(h:sV P o env k ph=some (v,ph')){l:Nat}(hk:l≠k)(hd:l ∉ dlO o env):qA l ph'=qA l ph:=by
 obtain⟨d,op,ty,pos,aft,g⟩:=o;have one:∀ {r:Option PV},pp1 ph r=some (v,ph')->qA l ph'=qA l ph:=fun h=>by rw[(yC h).2]
 have nin:∀ x∈op.operands,l ∉ dl1 (qK env x):=fun x hx hl=>hd (pU (o:=⟨d,op,ty,pos,aft,g⟩) hx hl)
 cases op <;> simp only[sV] at h <;> (try (cases h;done)) <;> (try (exact one h))
 case move=>cases h;rfl
 case assign=>cases h;rfl
 case pick=>split at h <;> cases h;rfl
 case alloc el =>
  unfold eD at h;split at h
  ·exact qDX (gF h).2 hk
  ·cases h
 case box el x =>
  unfold q1A at h
  cases hc:(!(spec P el)&&(pnt (qK env x)&&(zG (qK env x)).all fU)) with
  | true=>rw[hc] at h;exact qDX h hk
  | false=>rw[hc] at h;cases h
 case buildSlice t n ps =>
  unfold yB at h;split at h
  ·split at h
   ·rename_i s z _ _
    cases hc:(Nat.beq z.length (s+1)&&Nat.ble (n*(s+1)) 65536) with
    | true =>
      rw[hc] at h;simp only[cond_true] at h;split at h
      ·exact qDX h hk
      ·cases h
    | false=>rw[hc] at h;cases h
   ·cases h
  ·cases h
 case store t a x =>
  unfold ppS at h;split at h
  ·rename_i ph1 hs;cases h;unfold jG at hs;split at hs
   ·rename_i k' tt off ha;have hne:l≠k':=fun e=>nin a (by simp[Op.operands]) (by rw[ha,e];simp[dl1])
    split at hs
    ·split at hs
     ·rename_i ob _ _ n _
      replace hs:=(gF hs).2
      cases hc:(Nat.beq tt ob.cs.length&&(Nat.beq n (zG (qK env x)).length&&(Nat.ble (off+n) ob.cs.length&&(pnt (qK env x)&&(zG (qK env x)).all fU)))) with
      | true=>rw[hc] at hs;cases hs;rw[zD,if_neg (fun h=>hne h.1)]
      | false=>rw[hc] at hs;cases hs
     ·cases hs
    ·cases hs
   ·cases hs
  ·cases h
 case convert s t x =>
  cases hc:qRG (qK env x) with
  | true=>rw[hc] at h;cases h
  | false=>rw[hc] at h;exact one h
 case makeSlice t a b =>
  unfold xB at h;split at h
  ·rename_i el k1 n1 k2 m1 _ _ _
   cases hc:decide (n1=m1) with
   | false=>rw[hc] at h;cases h
   | true =>
     rw[hc] at h;simp only[cond_true] at h;split at h
     ·rename_i n s z _ _ _
      cases hc:(kT P el&&Nat.beq z.length (s+1)) with
      | true=>rw[hc] at h;exact qDX h hk
      | false=>rw[hc] at h;cases h
     ·cases h
  ·cases h
 case slice t x lo hi mx =>
  cases mx with
  | some=>cases h
  | none =>
    simp only at h;split at h
    ·split at h
     ·exact one h
     ·cases h
    ·exact one h
 case index=>split at h <;> exact one h
 case makeMap t r =>
  cases r with
  | some _=>cases h
  | none =>
    unfold cO at h
    cases hc:spec P 1000000001 with
    | false=>rw[hc] at h;cases h
    | true=>rw[hc] at h;exact qDX h hk
 case mapUpdate t m kx x =>
  unfold ppS at h;split at h
  ·rename_i ph1 hs;cases h;exact qID hs (nin m (by simp[Op.operands]))
  ·cases h
 case call c =>
  obtain⟨cal,args,ts⟩:=c;split at h
  ·rename_i b hb;simp only at hb;subst hb
   have dry:vS P b ⟨.builtin b,args,ts⟩ (args.toList.map (qK env)) env ty ph=some (v,ph')->qA l ph'=qA l ph:=fun h=>by
    unfold vS at h;split at h
    ·exact one h
    ·cases h
   have mem:∀ x,x∈args.toList.map (qK env)->l ∉ dl1 x:=fun x hx=>by
    obtain⟨a,ha,rfl⟩:=zO6.1 hx;exact nin a (by simpa [Op.operands,Call.operands] using ha)
   unfold uJ at h;split at h
   ·split at h
    ·rename_i x y hxy;have hx:l ∉ dl1 x:=mem x (by rw[hxy];simp);unfold zX at h
     have grow:∀ {el s:Nat} {old:List PV} {n:Nat} {new:List PV} {mm kk:Nat} {php:PHp},mY P el s old n new mm kk php=some (v,ph')->l≠kk->qA l ph'=qA l php:=fun hg hkk=>by
      unfold mY at hg;rename_i el s old n new mm kk php
      cases hc:(Nat.ble (n+mm) 1048576&&(kT P el&&(Nat.beq (old.length) (n*s)&&(Nat.beq new.length (mm*s)&&new.all fU)))) with
      | true=>rw[hc] at hg;exact qDX hg hkk
      | false=>rw[hc] at hg;cases hg
     split at h
     ·split at h
      ·split at h
       ·split at h
        ·rename_i el _ _ _ _ s _ _ mm new _;split at h
         ·cases h0:Nat.beq mm 0 with
          | true=>rw[h0] at h;cases h;rfl
          | false=>rw[h0] at h;exact grow h hk
         ·rename_i j tt o n;have hj:l≠j:=fun e=>hx (by rw[e];simp[dl1])
          split at h
          ·rename_i ob hl
           cases hc:(Nat.beq ob.el el&&(Nat.beq (tt*(s+1)) ob.cs.length&&Nat.beq o 0)) with
           | false=>rw[hc] at h;cases h
           | true =>
             rw[hc] at h;simp only[cond_true] at h
             cases h0:Nat.beq mm 0 with
             | true=>rw[h0] at h;cases h;rfl
             | false =>
               rw[h0] at h;simp only[cond_false] at h
               cases hr:Nat.ble (n+mm) tt with
               | true =>
                 rw[hr] at h;simp only[cond_true] at h
                 cases hc2:(Nat.beq new.length (mm*(s+1))&&new.all fU) with
                 | true=>rw[hc2] at h;cases h;rw[zD,if_neg (fun h=>hj h.1)]
                 | false=>rw[hc2] at h;cases h
               | false =>
                 rw[hr] at h;simp only[cond_false] at h
                 cases hn:Nat.beq n tt with
                 | false=>rw[hn] at h;cases h
                 | true =>
                   rw[hn] at h;simp only[cond_true] at h
                   cases hg:ob.gr with
                   | true=>rw[hg] at h;rw[grow h hj,yZ,if_neg hj]
                   | false=>rw[hg] at h;exact grow h hk
          ·cases h
         ·cases h
        ·cases h
       ·cases h
      ·cases h
     ·cases h
    ·cases h
   ·split at h
    ·rename_i x y hxy;have hx:l ∉ dl1 x:=mem x (by rw[hxy];simp);unfold qF2 at h;split at h
     ·split at h
      ·split at h
       ·split at h
        ·rename_i el _ _ _ _ s _ _ mm new _;split at h
         ·rename_i j tt o n;have hj:l≠j:=fun e=>hx (by rw[e];simp[dl1])
          split at h
          ·rename_i ob hl
           cases hc:(Nat.beq ob.el el&&(Nat.beq (tt*(s+1)) ob.cs.length&&(Nat.beq new.length (mm*(s+1))&&new.all fU))) with
           | false=>rw[hc] at h;cases h
           | true=>rw[hc] at h;cases h;rw[zD,if_neg (fun h=>hj h.1)]
          ·cases h
         ·cases h;rfl
         ·cases h;rfl
         ·cases h
        ·cases h
       ·cases h
      ·cases h
     ·cases h
    ·cases h
   ·split at h
    ·cases hc:qY0 P ts with
     | true=>rw[hc] at h;exact dry h
     | false=>rw[hc] at h;exact one h
    ·cases h
   ·exact dry h
   ·exact dry h
   ·cases h
  ·cases h
theorem q4W {t:TypeId}{a x:PV}{ph ph':PHp}(h:fA P t a ph=some x)(hd:∀ l∈dl1 a,qA l ph'=qA l ph):fA P t a ph'=some x:=by
 cases a <;> first | exact h | skip
 rename_i k tt off;have:=hd k (by simp[dl1]);unfold fA at h ⊢;simp only[this];exact h
theorem qV5 {k tt:Nat}{ph ph':PHp}(h:qA k ph'=qA k ph):live? k tt ph'=live? k tt ph:=by unfold live?;rw[h]
theorem qMW {a x:PV}{ph ph':PHp}(h:yN a ph=some x)(hd:∀ l∈dl1 a,qA l ph'=qA l ph):yN a ph'=some x:=by
 unfold yN at h ⊢;split at h
 ·rename_i k tt off;rw[qV5 (tt:=tt) (hd k (by simp[dl1]))];exact h
 ·exact h
 ·exact h
 ·exact h
 ·cases h
theorem q0S {t:TypeId}{a x:PV}{lo hi:Option PV}{ph ph':PHp}(h:wL P t a lo hi ph=some x)(hd:∀ l∈dl1 a,qA l ph'=qA l ph):wL P t a lo hi ph'=some x:=by
 unfold wL at h ⊢;split at h
 ·exact h
 ·exact h
 ·rename_i k tt o n;rw[hd k (by simp[dl1])];exact h
 ·rename_i k tt;rw[hd k (by simp[dl1])];exact h
 ·cases h
theorem qIR {t:TypeId}{a x:PV}{i:Nat}{ph ph':PHp}(h:zY P t a i ph=some x)(hd:∀ l∈dl1 a,qA l ph'=qA l ph):zY P t a i ph'=some x:=by
 cases a <;> first | exact h | skip
 rename_i k tt off;have:=qV5 (tt:=tt) (hd k (by simp[dl1]));unfold zY at h ⊢;simp only[this];exact h
theorem qJ9 {t:TypeId}{a ix x:PV}{ph ph':PHp}(h:zC P t a ix ph=some x)(hd:∀ l∈dl1 a,qA l ph'=qA l ph):zC P t a ix ph'=some x:=by
 unfold zC at h ⊢;split at h
 ·split at h
  ·exact h
  ·rename_i k tt o n;rw[hd k (by simp[dl1])];exact h
  ·rename_i k tt off;rw[qV5 (tt:=tt) (hd k (by simp[dl1]))];exact h
  ·exact h
  ·cases h
 ·cases h
theorem q85 {ts:Array TypeId}{a x:PV}{ph ph':PHp}(h:q2G P ts a ph=some x)(hd:∀ l∈dl1 a,qA l ph'=qA l ph):q2G P ts a ph'=some x:=by
 unfold q2G at h ⊢;split at h
 ·split at h
  ·split at h
   ·exact h
   ·exact h
   ·rename_i k tt o n;rw[hd k (by simp[dl1])];exact h
   ·cases h
  ·exact h
 ·cases h
theorem q6N {ts:Array TypeId}{a x:PV}{ph ph':PHp}(h:qC6 P ts a ph=some x)(hd:∀ l∈dl1 a,qA l ph'=qA l ph):qC6 P ts a ph'=some x:=by
 have e:sG P a ph'=sG P a ph:=by
  cases a <;> first | rfl | skip
  rename_i k;unfold sG;simp only[hd k (by simp[dl1])]
 unfold qC6 at h ⊢;rw[e];split at h
 ·exact h
 ·exact q85 h hd
theorem qTU {t:TypeId}{m kx x:PV}{ok:Bool}{ph ph':PHp}(h:uU P t m kx ok ph=some x)(hd:∀ l∈dl1 m,qA l ph'=qA l ph):uU P t m kx ok ph'=some x:=by
 have e:sU P m ph'=sU P m ph:=by
  cases m <;> first | rfl | skip
  rename_i k;unfold sU;simp only[hd k (by simp[dl1])]
 unfold uU at h ⊢;rw[e];exact h
theorem q5N {a:PV}{b:Bool}{ph ph':PHp}(h:isNil (P:=P) a ph=some b)(hd:∀ l∈dl1 a,qA l ph'=qA l ph):isNil (P:=P) a ph'=some b:=by
 unfold isNil at h ⊢;split at h
 ·exact h
 ·exact h
 ·rename_i k tt o n;rw[hd k (by simp[dl1])];exact h
 ·cases h
theorem zAE {t:TypeId}{a b:PV}{r:Bool}{ph ph':PHp}(h:qEG P t a b ph=some r)(hd:∀ l∈dl1 a,qA l ph'=qA l ph):qEG P t a b ph'=some r:=by
 unfold qEG at h ⊢;split at h
 ·cases hc:(zS P t).isSome with
  | true=>rw[hc] at h;exact q5N h hd
  | false=>rw[hc] at h;cases h
 ·exact h
 ·cases h
theorem qS8 {t:TypeId}{a b x:PV}{ph ph':PHp}{f:Bool->PV}(h:uW P t a b ph f=some x)(hd:∀ l∈dl1 a,qA l ph'=qA l ph):uW P t a b ph' f=some x:=by
 unfold uW at h ⊢;split at h
 ·rename_i r h1;rw[zAE h1 hd];exact h
 ·have:qEG P t a b ph'=none:=by
   unfold qRK at h;split at h
   ·rename_i el n c;unfold qEG
    cases hc:(zS P t).isSome with
    | false=>rw[hc] at h;cases h
    | true=>rfl
   ·cases h
  rw[this];exact h
theorem zA5 {op:BinOp}{t t2:TypeId}{a b x:PV}{ph ph':PHp}(h:jT P op t t2 a b ph=some x)(hd:∀ l∈dl1 a,qA l ph'=qA l ph):jT P op t t2 a b ph'=some x:=by
 unfold jT at h ⊢;split at h
 ·exact h
 ·split at h
  ·exact qS8 h hd
  ·exact qS8 h hd
  ·cases h
theorem q9F {o:Oper}{env:List PV}{k:Nat}{ph ph1:PHp}{v:PV}(hf:yS o=false)(ha:qL o=false)(h:sV P o env k ph=some (v,ph1)) :
 ph1=ph∧∀ (k':Nat) (ph':PHp),(∀ l∈dlO o env,qA l ph'=qA l ph)->sV P o env k' ph'=some (v,ph'):=by
 obtain⟨d,op,ty,pos,aft,g⟩:=o;have mem:∀ {x:Operand} {ph':PHp},x∈op.operands->(∀ l∈dlO ⟨d,op,ty,pos,aft,g⟩ env,qA l ph'=qA l ph)->∀ l∈dl1 (qK env x),qA l ph'=qA l ph:=fun hx hd l hl=>hd l (pU (o:=⟨d,op,ty,pos,aft,g⟩) hx hl)
 have one:∀ {f:PHp->Option PV},pp1 ph (f ph)=some (v,ph1)->(∀ {x ph'},(∀ l∈dlO ⟨d,op,ty,pos,aft,g⟩ env,qA l ph'=qA l ph)->f ph=some x->f ph'=some x)->ph1=ph∧∀ (k':Nat) (ph':PHp),(∀ l∈dlO ⟨d,op,ty,pos,aft,g⟩ env,qA l ph'=qA l ph)->pp1 ph' (f ph')=some (v,ph'):=fun h hk=>by
  obtain⟨h1,h2⟩:=yC h;exact⟨h2,fun k' ph' hd=>by rw[hk hd h1];rfl⟩
 have hne:xM ⟨d,op,ty,pos,aft,g⟩=.pure∨xM ⟨d,op,ty,pos,aft,g⟩=.read:=qG6 hf ha
 cases op <;> simp only[sV] at h ⊢ <;> (try (cases h;done))
 case move=>cases h;exact⟨rfl,fun _ _ _=>rfl⟩
 case assign=>cases h;exact⟨rfl,fun _ _ _=>rfl⟩
 case pick c a b =>
  split at h
  ·rename_i t ht;cases h;refine⟨rfl,fun _ _ _=>?_⟩;simp only[ht]
  ·cases h
 case alloc=>simp only[xM] at hne;split at hne <;> (rcases hne with h | h <;> cases h)
 case box=>rcases hne with h | h <;> cases h
 case buildSlice=>rcases hne with h | h <;> cases h
 case store=>rcases hne with h | h <;> cases h
 case makeSlice=>rcases hne with h | h <;> cases h
 case build t ps =>
  obtain⟨h1,h2⟩:=yC h;exact⟨h2,fun k' ph' hd=>by rw[h1];rfl⟩
 case load t a=>exact one (f:=fun q=>fA P t (qK env a) q) h fun hd h=>q4W h (mem (by simp[Op.operands]) hd)
 case nilCheck x=>exact one (f:=fun q=>yN (qK env x) q) h fun hd h=>qMW h (mem (by simp[Op.operands]) hd)
 case binOp op t x y t2=>exact one (f:=fun q=>jT P op t t2 (qK env x) (qK env y) q) h fun hd h=>zA5 h (mem (by simp[Op.operands]) hd)
 case unOp op t x=>exact one (f:=fun _=>bG P (fun a=>.unOp op t a) (qK env x)) h fun _ h=>h
 case convert s t x =>
  cases hc:qRG (qK env x) with
  | true=>rw[hc] at h;cases h
  | false =>
    rw[hc] at h;simp only[cond_false] at h ⊢;exact one (f:=fun _=>bG P (fun a=>.convert s t a) (qK env x)) h fun _ h=>h
 case makeFunc fn a b=>exact one (f:=fun _=>vF fn (a.toList.map (qK env)) (b.toList.map (qK env))) h fun _ h=>h
 case slice t x lo hi mx =>
  cases mx with
  | some=>cases h
  | none =>
    simp only at h ⊢;split at h
    ·rename_i s hs;split at h
     ·rename_i vs hvs;exact one (f:=fun _=>qMD P (.slice t (.const (.string s)) (lo.map fun a=>.const ((pl (qK env a)).getD undef)) (hi.map fun a=>.const ((pl (qK env a)).getD undef)) none)) h fun _ h=>h
     ·cases h
    ·exact one (f:=fun q=>wL P t (qK env x) (lo.map (qK env)) (hi.map (qK env)) q) h fun hd h=>q0S h (mem (by cases lo <;> cases hi <;> simp[Op.operands]) hd)
 case fieldAddr t x i=>exact one (f:=fun q=>zY P t (qK env x) i q) h fun hd h=>qIR h (mem (by simp[Op.operands]) hd)
 case indexAddr t x ix=>exact one (f:=fun q=>zC P t (qK env x) (qK env ix) q) h fun hd h=>qJ9 h (mem (by simp[Op.operands]) hd)
 case index t x ix =>
  split at h
  ·rename_i s j hs hj;exact one (f:=fun _=>qMD P (.index t (.const (.string s)) (.const j))) h fun _ h=>h
  ·exact one (f:=fun _=>qEX P t (qK env x) (qK env ix)) h fun _ h=>h
 case extract t i=>exact one (f:=fun _=>bL (qK env t) i) h fun _ h=>h
 case makeMap=>rcases hne with h | h <;> cases h
 case lookup t x kx ok=>exact one (f:=fun q=>uU P t (qK env x) (qK env kx) ok q) h fun hd h=>qTU h (mem (by simp[Op.operands]) hd)
 case mapUpdate=>rcases hne with h | h <;> cases h
 case call c =>
  obtain⟨cal,args,ts⟩:=c;split at h
  ·rename_i b hb;simp only at hb;subst hb
   have dry:∀ {b:Builtin},vS P b ⟨.builtin b,args,ts⟩ (args.toList.map (qK env)) env ty ph=some (v,ph1)->ph1=ph∧∀ ph',vS P b ⟨.builtin b,args,ts⟩ (args.toList.map (qK env)) env ty ph'=some (v,ph'):=fun h=>by
    unfold vS at h ⊢;split at h
    ·obtain⟨h1,h2⟩:=yC h;exact⟨h2,fun ph'=>by rw[h1];rfl⟩
    ·cases h
   unfold uJ at h;split at h
   ·rcases hne with h | h <;> cases h
   ·rcases hne with h | h <;> cases h
   ·split at h
    ·rename_i x hx
     obtain⟨a1,ha1,rfl⟩:∃ a1,args=#[a1]∧x=qK env a1:=by
      cases hq:args.toList with
      | nil=>rw[hq] at hx;cases hx
      | cons a l =>
        rw[hq] at hx
        cases l with
        | nil =>
          simp only[zOZ,zQQ,zPD,and_true] at hx
          exact ⟨a, by have e9:args=args.toList.toArray:=by simp
                       rw[e9,hq],hx.symm⟩
        | cons=>cases hx
     subst ha1
     cases hc:qY0 P ts with
     | true =>
       rw[hc] at h;obtain⟨h1,h2⟩:=dry h;refine⟨h1,fun k' ph' hd=>?_⟩;unfold uJ;simp only[zOZ,zQQ,hc,cond_true];exact h2 ph'
     | false =>
       rw[hc] at h;obtain⟨h1,h2⟩:=yC h;refine⟨h2,fun k' ph' hd=>?_⟩;unfold uJ;simp only[zOZ,zQQ,hc,cond_false];rw[q6N h1 (mem (by simp[Op.operands,Call.operands]) hd)];rfl
    ·cases h
   ·obtain⟨h1,h2⟩:=dry h;exact⟨h1,fun k' ph' hd=>h2 ph'⟩
   ·obtain⟨h1,h2⟩:=dry h;exact⟨h1,fun k' ph' hd=>h2 ph'⟩
   ·cases h
  ·cases h
end Go.Idl
