/- Runs told by plain values, part two. Conditions: none. -/
import Derived.Test.YtmkiipeghngchaaGreatDoorPur7
set_option linter.all false
namespace Go.Idl
variable [Gc]
variable {P:Program}{Z:Nat->Prop}{H:IH}{M:Nat->Option (Nat×PO)}{m:Nat->Nat}{ph:PHp}
variable {env:List PV}{zFD:Env}{k:Nat}{o:Oper}{ph':PHp}{y:PV}
theorem qMB {s n:Nat}{a:Option Addr}{len c:Nat}{vs:List Value}(h:jH s n H (.slice a len c)=some vs)(hk:k<=n):jH s k H (.slice a len c)=some (vs.take (k*s)):=by
 by_cases hk0:k=0
 ·subst hk0;simp[jH,kH]
 ·unfold jH at h ⊢;rw[if_neg (by omega)] at h;rw[if_neg hk0];unfold wO at h ⊢
  cases a with
  | none=>simp only at h;split at h <;> first | omega | cases h
  | some a =>
    simp only at h ⊢;unfold IH.loads at h ⊢;split at h
    ·rename_i cc el fz hg;split at h
     ·cases h;have:k*s<=n*s:=zP3 _ hk;rw[if_pos (by omega),zR7]
      congr 2;omega
     ·cases h
    ·cases h
theorem q3K {j:Nat}{ob:PO}(hl:qA j ph=some ob):own m (xN j ob ph)=own m ph:=by
 funext k
 unfold own;rw[qY];by_cases h:k=j
 ·subst h;rw[if_pos ⟨rfl,by rw[hl];rfl⟩,hl]
 ·rw[if_neg (fun h'=>h h'.1)]
theorem q27 {l:List PV}{i:Nat}:yF l i []=l:=by unfold yF;simp
theorem q3C {p:Nat->Bool}{ts:List TypeId}{base x:PV}{vb vx:Value}(hp:Hp P Z H (own m ph))(hbase:VR P Z H (own m ph) base vb)(hx:VR P Z H (own m ph) x vx)(h:qIG P ts base x ph=some (y,ph')) :
 Res P Z H m ph p y ph' (qDK P ts.toArray [vb,vx] H):=by
 unfold qIG at h;split at h
 ·rename_i st xt;split at h
  ·rename_i el el2 he he2;split at h
   ·rename_i s hs;split at h
    ·rename_i mm new hnew;obtain⟨vs,a,c,rfl,hf,hr,hlen⟩:=qQA hp hx hnew
     have icp:∀ bs n cap,qDK P #[st,xt] [.slice bs n cap,.slice a mm c] H=uL bs (Nat.min mm n) (vs.take (Nat.min mm n*(s+1))) H:=fun bs n cap=>by
      unfold qDK;have hs':szT P el=some (s+1):=hs;simp only[zP he,hs',kH,qMB hf (Nat.min_le_left mm n)]
     split at h
     ·rename_i j tt o n;split at h
      ·rename_i ob hl
       cases hc:(Nat.beq ob.el el&&(Nat.beq (tt*(s+1)) ob.cs.length&&(Nat.beq new.length (mm*(s+1))&&new.all aO))) with
       | false=>rw[hc] at h;cases h
       | true =>
         rw[hc] at h;cases h;simp only[zOT] at hc;obtain⟨c1,c2,c3,c4⟩:=hc;have e1:=zOU c1;have e2:=zOU c2;subst e1;have hv1:=hr.one c4;obtain⟨hO,hpos⟩:=wJ hbase hl hs e2;rw[show ([st,xt]:List TypeId).toArray=#[st,xt] from rfl]
         have same:∀ s',(s'=some (.val (goInt (Nat.min mm n)) H))->new.take (Nat.min mm n*(s+1))=[]->Res P Z H m ph p (fvv (.int .i64 ((Nat.min mm n:Nat):Int))) (xN j { ob with cs:=yF ob.cs (o*(s+1)) (new.take (Nat.min mm n*(s+1))) } ph) s':=fun s' hs' h0=>by
          rw[h0,q27];have e:own m (xN j { ob with cs:=ob.cs } ph)=own m ph:=q3K hl;refine⟨goInt (Nat.min mm n),H,Z,m,hs',?_,jP rfl,?_,?_⟩
          ·rw[e];exact hp
          ·rw[e];exact .refl _ _ _
          ·rw[e];exact .refl _ _
         rcases hO with ⟨g1,rfl,rfl,rfl,rfl⟩ | ⟨g1,g2,g3,rfl⟩
         ·rw[icp];exact same _ rfl (by simp)
         ·have hre:=eB e2 hpos g1;obtain⟨w1,w2,w3,ws,q1,q2,q3⟩:=hp.real hl hre (kG hs);rw[icp];by_cases h0:(vs.take (Nat.min mm n*(s+1)))=[]
          ·rw[h0];refine same _ rfl ?_;have:=(hr.take (Nat.min mm n*(s+1))).len;rw[h0] at this;exact zP6.1 this
          ·have hle:(o+n)*(s+1)<=tt*(s+1):=zP3 _ g2;rw[zRF] at hle;have hmn:Nat.min mm n*(s+1)<=n*(s+1):=zP3 _ (Nat.min_le_right mm n);have hlt:(new.take (Nat.min mm n*(s+1))).length<=n*(s+1):=by simp only[zQE];omega
           have h1:(vs.take (Nat.min mm n*(s+1))).all oneCell=true:=by
            rw[zOW] at hv1 ⊢;exact fun x hx=>hv1 x (zRS hx)
           obtain⟨r1,r2,r3⟩:=hp.put (cs:=yF ob.cs (o*(s+1)) (new.take (Nat.min mm n*(s+1)))) hl hre (kG hs) (d9 (by omega)) (q2.over (hr.take (Nat.min mm n*(s+1))) (o*(s+1))) (qAM q3 h1);refine⟨goInt (Nat.min mm n),_,Z,m,?_,r1,jP rfl,r2,r3 _⟩;unfold uL
           have hne:(vs.take (Nat.min mm n*(s+1))).isEmpty=false:=by
            cases hq:vs.take (Nat.min mm n*(s+1)) with
            | nil=>exact absurd hq h0
            | cons=>rfl
           simp only[hne,zQW,if_false]
           have hst:H.stores (m j) (o*(s+1)) (vs.take (Nat.min mm n*(s+1)))=some (H.put (m j) (.cells (overwrite ws (o*(s+1)) (vs.take (Nat.min mm n*(s+1)))).toArray ob.el (cond ob.gr zJ (0,0)))):=by
            unfold IH.stores;rw[q1];simp only[];rw[if_pos];simp only[qTY,h1,w2,decide_true,zQ8,decide_eq_true_eq,zRI];rw[<-q2.len,<- (hr.take (Nat.min mm n*(s+1))).len];omega
           rw[hst]
      ·cases h
     ·cases h;obtain⟨ab,cb,rfl⟩:=qZL hbase;have h0:Nat.min mm 0=0:=zS5 mm;refine .same ?_ hp (jP (v:=.int .i64 0) rfl);rw[show ([st,xt]:List TypeId).toArray=#[st,xt] from rfl,icp,h0];cases ab <;> simp[uL,goInt]
     ·cases h;have:=yI hbase rfl;subst this;have h0:Nat.min mm 0=0:=zS5 mm;refine .same ?_ hp (jP (v:=.int .i64 0) rfl);rw[show ([st,xt]:List TypeId).toArray=#[st,xt] from rfl,icp,h0];simp[uL,goInt]
     ·cases h
    ·cases h
   ·cases h
  ·cases h
 ·cases h
theorem zU {o:Option PV}(h:pp1 ph o=some (y,ph')):o=some y∧ph'=ph:=by
 unfold pp1 at h;split at h
 ·cases h;exact⟨rfl,rfl⟩
 ·cases h
theorem VRL.of {env:List PV}{zFD:Env}(he:VRL P Z H M env zFD):∀ (l:List Operand),VRL P Z H M (l.map (qJ env)) (l.map zFD.val)
 | []=>.nil
 | x::l=>.cons (qK he x) (VRL.of he l)
theorem qGE (h:zY k env=true)(x:Operand):noK k (qJ env x)=true:=by
 cases x with
 | tmp t =>
   show noK k ((zG env t).getD .unk)=true;rw[qF]
   cases he:env[t]? with
   | none=>rfl
   | some y=>exact wL h he
 | const v =>
   show noK k (ofC v)=true;unfold ofC q6M;split
   ·rename_i cs;cases jG okC cs.toList with
    | true=>exact rT k _
    | false=>rfl
   ·rename_i cs;cases jG okC cs.toList with
    | true=>exact rT k _
    | false=>rfl
   ·cases okC v <;> rfl
 | global g=>rfl
 | func g=>rfl
theorem qQT {k:Nat}{env:List PV}(h:zY k env=true):∀ (l:List (Nat×Operand)),zY k ((l.map fun p=>(p.1,qJ env p.2)).map (·.2))=true
 | []=>rfl
 | p::l=>by simp only[zPB,zY,qGE h,qQT h l,zPQ]
theorem Res.up {p q:Nat->Bool}{v:PV}{s:Option zFK}(h:Res P Z H m ph p v ph' s)(hq:∀ j,p j=true->q j=true):Res P Z H m ph q v ph' s:=by
 obtain⟨u,H',Z',m',h1,h2,h3,h4,h5⟩:=h
 exact⟨u,H',Z',m',h1,h2,h3,h4,fun j b ob hM=>by
  rcases h5 j b ob hM with h | h | h
  ·exact .inl h
  ·exact .inr (.inl h)
  ·exact .inr (.inr (hq j h))⟩
def nw (o:Op)(k:Nat):Nat->Bool:=fun j=>needs o&&(j==k)
theorem q8S (hp:Hp P Z H (own m ph))(hb:H.base<=H.size)(he:VRL P Z H (own m ph) env zFD)(hn:needs o.op=true->zY k env=true∧aD k ph=true)(h:rA P o env k ph=some (y,ph')) :
 Res P Z H m ph (nw o.op k) y ph' (iop P o zFD H):=by
 obtain⟨d,op,ty,pos,aft,g⟩:=o;have fin:∀ {x:PV} {s:Option zFK},(∃ u,s=some (.val u H)∧VR P Z H (own m ph) x u)->Res P Z H m ph (nw op k) x ph s:=fun ⟨u,h1,h2⟩=>.same h1 hp h2
 have zIE:∀ {x:PV} {s:Option Value},(∃ u,s=some u∧VR P Z H (own m ph) x u)->Res P Z H m ph (nw op k) x ph (zFK.ofO H s):=fun ⟨u,h1,h2⟩=>.same (by rw[h1];rfl) hp h2
 cases op <;> simp only[rA] at h <;> (try (cases h;done)) <;> simp only at hn fin zIE
 case move x=>cases h;exact fin ⟨_,rfl,qK he x⟩
 case assign x=>cases h;exact fin ⟨_,rfl,qK he x⟩
 case pick c a b =>
  split at h
  ·rename_i t ht;cases h;have hc:=qK he c;rw[ht] at hc;have hv:=yI hc rfl;refine fin ⟨cond t (zFD.val a) (zFD.val b),?_,?_⟩
   ·show qNP (zFD.val c) _ _ H=_;rw[hv];rfl
   ·cases t
    ·exact qK he b
    ·exact qK he a
  ·cases h
 case alloc el =>
  obtain⟨n1,n2⟩:=hn rfl;exact (qXL hp hb n2 h).up fun j hj=>hj
 case box el x =>
  obtain⟨n1,n2⟩:=hn rfl;exact (q6X hp hb n2 (qK he x) (qGE n1 x) h).up fun j hj=>hj
 case build t ps =>
  obtain⟨h1,rfl⟩:=zU h;exact zIE (qU2 (qZA he _) h1)
 case buildSlice t len ps =>
  obtain⟨n1,n2⟩:=hn rfl;exact (qDO hp hb n2 (qZA he _) (qQT n1 _) h).up fun j hj=>hj
 case load t a =>
  obtain⟨h1,rfl⟩:=zU h;exact zIE (qOZ hp (qK he a) h1)
 case store t a x =>
  unfold ppS at h;split at h
  ·rename_i ph1 hs;cases h;exact qXH hp (qK he a) (qK he x) hs
  ·cases h
 case nilCheck x =>
  obtain⟨h1,rfl⟩:=zU h;obtain⟨h2,rfl⟩:=qJV (qK he x) h1;exact fin ⟨_,h2,qK he x⟩
 case binOp op t x z t2 =>
  obtain⟨h1,rfl⟩:=zU h;exact fin (q5K (qK he x) (qK he z) h1)
 case unOp op t x =>
  obtain⟨h1,rfl⟩:=zU h;exact fin (qRO (qK he x) rfl h1)
 case convert s t x =>
  cases hpt:qR2 (qJ env x) with
  | true=>rw[hpt] at h;cases h
  | false =>
  rw[hpt] at h;obtain⟨h1,rfl⟩:=zU h;have hx:=qK he x;obtain⟨u,h2,h3⟩:=qRO (o:=⟨d,.convert s t x,ty,pos,aft,g⟩) (env:=zFD) hx rfl h1;refine fin ⟨u,?_,h3⟩;show fE P _ s t (zFD.val x) zFD H=_;unfold fE;split
  ·rename_i a ha;exfalso;unfold bG at h1;split at h1
   ·rename_i b hb';have hv:=yI hx hb';rw[ha] at hv;subst hv;unfold pl at hb';split at hb'
    ·rename_i x0 hx0;cases hb';rw[hx0] at hpt;cases hpt
    ·split at hb' <;> cases hb'
    ·cases hb'
   ·cases h1
  ·exact h2
 case makeFunc fn first cap =>
  obtain⟨h1,rfl⟩:=zU h;exact fin (qI7 (by simpa using VRL.of he first.toList) (by simpa using VRL.of he cap.toList) h1)
 case makeSlice t l c =>
  obtain⟨n1,n2⟩:=hn rfl;exact (qGB hp hb n2 (qK he l) (qK he c) h).up fun j hj=>hj
 case slice t x lo hi mx =>
  cases mx with
  | some mx=>cases h
  | none =>
    simp only at h;split at h
    ·rename_i s hs;have hx:=qK he x;rw[hs] at hx;have hv:=yI hx rfl;split at h
     ·rename_i vs hvs;obtain⟨h1,rfl⟩:=zU h
      have zLI:∀ (w:Option Operand),(∀ a,w=some a->a∈lo.toList++hi.toList)->(w.map fun a=>(Operand.const ((pl (qJ env a)).getD undef))).map (Env.val [])=w.map zFD.val:=fun w hw=>by
       cases w with
       | none=>rfl
       | some a =>
         obtain⟨b,hb'⟩:=qGU hvs (qJ env a) (zPL.2 ⟨a,hw a rfl,rfl⟩);simp only[zO7,hb',zQ2];rw[yI (qK he a) hb'];rfl
      have hlo:=zLI lo (fun a ha=>by subst ha;simp);have hhi:=zLI hi (fun a ha=>by subst ha;simp)
      obtain⟨u,h2,h3⟩:=qY1 (M:=own m _) (Z:=Z) (H:=H) (o:=⟨d,.slice t x lo hi none,ty,pos,aft,g⟩) (env:=zFD) (by
       have hex:execOp zFD.val ⟨d,.slice t x lo hi none,ty,pos,aft,g⟩=execOp (Env.val []) (cop (.slice t (.const (.string s)) (lo.map fun a=>.const ((pl (qJ env a)).getD undef)) (hi.map fun a=>.const ((pl (qJ env a)).getD undef)) none)):=by
        show (do let x <- Instr.sliceAt t (zFD.val x) (lo.map zFD.val) (hi.map zFD.val) none;pure (Next.value x))=(do let x <- Instr.sliceAt t (.string s) ((lo.map fun a=>(Operand.const ((pl (qJ env a)).getD undef))).map (Env.val [])) ((hi.map fun a=>(Operand.const ((pl (qJ env a)).getD undef))).map (Env.val [])) none;pure (Next.value x));rw[hlo,hhi,hv]
       have hpl:kY zFD.val (Op.slice t x lo hi none).operands.toList=kY (Env.val []) (cop (.slice t (.const (.string s)) (lo.map fun a=>.const ((pl (qJ env a)).getD undef)) (hi.map fun a=>.const ((pl (qJ env a)).getD undef)) none)).op.operands.toList:=by
        rw[xI,xI];cases lo <;> cases hi <;> simp_all [Op.operands,cop,Env.val]
       unfold jK;rw[hex]
       simp only[hpl]) h1
      refine fin ⟨u,?_,h3⟩;show uK P _ t (zFD.val x) _ _ _ zFD H=_;rw[hv];exact h2
     ·cases h
    ·rename_i v hne;obtain⟨h1,rfl⟩:=zU h;obtain⟨u,h2,h3⟩:=qS7 hp (qK he x) (q9D.of he lo) (q9D.of he hi) h1;exact fin ⟨u,qM1 h2,h3⟩
 case fieldAddr t x i =>
  obtain⟨h1,rfl⟩:=zU h;exact zIE (qH8 (qK he x) h1)
 case indexAddr t x ix =>
  obtain⟨h1,rfl⟩:=zU h;exact zIE (qFX hp (qK he x) (qK he ix) h1)
 case index t x ix =>
  split at h
  ·rename_i s j hs hj;obtain⟨h1,rfl⟩:=zU h;have hx:=qK he x;rw[hs] at hx;have hv:=yI hx rfl;have hv2:=yI (qK he ix) hj;obtain⟨u,h2,h3⟩:=qY1 (M:=own m _) (Z:=Z) (H:=H) (o:=⟨d,.index t x ix,ty,pos,aft,g⟩) (env:=zFD) (by rw[<-hv,<-hv2];rfl) h1;refine fin ⟨u,?_,h3⟩;show uN P _ t (zFD.val x) _ zFD H=_;rw[hv];exact h2
  ·obtain⟨h1,rfl⟩:=zU h;obtain⟨u,h2,h3⟩:=qTX (qK he x) (qK he ix) h1;exact fin ⟨u,qMY h2,h3⟩
 case makeMap t r =>
  obtain⟨n1,n2⟩:=hn rfl
  cases r with
  | some _=>cases h
  | none=>exact (qNV hp hb n2 h).up fun j hj=>hj
 case lookup t x kx ok =>
  obtain⟨h1,rfl⟩:=zU h;exact zIE (qR8 hp (qK he x) (qK he kx) h1)
 case mapUpdate t mv kx x =>
  unfold ppS at h;split at h
  ·rename_i ph1 hs;cases h;exact qG9 hp (qK he mv) (qK he kx) (qK he x) hs
  ·cases h
 case mapEntry t mv kx=>exact qI8 hp (qK he mv) (qK he kx) h
 case extract t i =>
  obtain⟨h1,rfl⟩:=zU h;exact fin (qNS (qK he t) h1)
 case call c =>
  obtain⟨cal,args,ts⟩:=c;split at h
  ·rename_i b hbq;simp only at hbq;subst hbq;have two:∀ x z,args.toList=[x,z]->kY zFD.val args.toList=[zFD.val x,zFD.val z]:=fun x z e=>by rw[e];rfl
   unfold uQ at h;split at h
   ·-- append
    split at h
    ·rename_i x z hxz;obtain⟨n1,n2⟩:=hn rfl
     obtain⟨a1,a2,ha,rfl,rfl⟩:∃ a1 a2,args.toList=[a1,a2]∧x=qJ env a1∧z=qJ env a2:=by
      cases hq:args.toList with
      | nil=>rw[hq] at hxz;cases hxz
      | cons a l =>
        rw[hq] at hxz
        cases l with
        | nil=>cases hxz
        | cons a2 l =>
          cases l with
          | nil=>simp only[zPB,zQ6,zPK,and_true] at hxz;exact⟨a,a2,rfl,hxz.1.symm,hxz.2.symm⟩
          | cons=>cases hxz
     have hr:=qTA hp hb n2 (qK he a1) (qK he a2) (qGE n1 a2) (qGE n1 a1) h;obtain⟨u,H',Z',m',e1,e2,e3,e4,e5⟩:=hr;refine Res.up (p:=fun j=>j==k) ⟨u,H',Z',m',?_,e2,e3,e4,e5⟩ fun j hj=>hj
     refine aU ?_;rw[two _ _ ha];rw[show ts.toList.toArray=ts from by simp] at e1;exact e1
    ·cases h
   ·-- copy
    split at h
    ·rename_i x z hxz
     obtain⟨a1,a2,ha,rfl,rfl⟩:∃ a1 a2,args.toList=[a1,a2]∧x=qJ env a1∧z=qJ env a2:=by
      cases hq:args.toList with
      | nil=>rw[hq] at hxz;cases hxz
      | cons a l =>
        rw[hq] at hxz
        cases l with
        | nil=>cases hxz
        | cons a2 l =>
          cases l with
          | nil=>simp only[zPB,zQ6,zPK,and_true] at hxz;exact⟨a,a2,rfl,hxz.1.symm,hxz.2.symm⟩
          | cons=>cases hxz
     have hr:=q3C (p:=nw (.call ⟨.builtin .copy,args,ts⟩) k) hp (qK he a1) (qK he a2) h;obtain⟨u,H',Z',m',e1,e2,e3,e4,e5⟩:=hr;refine⟨u,H',Z',m',?_,e2,e3,e4,e5⟩;refine aU ?_;rw[two _ _ ha];rw[show ts.toList.toArray=ts from by simp] at e1;exact e1
    ·cases h
   ·-- len
    split at h
    ·rename_i x hx0
     obtain⟨a1,ha,rfl⟩:∃ a1,args=#[a1]∧x=qJ env a1:=by
      cases hq:args.toList with
      | nil=>rw[hq] at hx0;cases hx0
      | cons a l =>
        rw[hq] at hx0
        cases l with
        | nil =>
          simp only[zPB,zQ6,zPK,and_true] at hx0
          exact ⟨a, by have e9:args=args.toList.toArray:=by simp
                       rw[e9,hq],hx0.symm⟩
        | cons=>cases hx0
     subst ha
     cases hst:qZW P ts with
     | true =>
       rw[hst] at h
       have hnone:yE P .len ⟨.builtin .len,#[a1],ts⟩ (kY zFD.val #[a1].toList) H=none:=by
        show oM P ts [zFD.val a1] H=none;unfold qZW at hst;split at hst
        ·rename_i hu;unfold oM;rw[hu]
        ·cases hst
       obtain⟨e9,hr⟩:=qCA (d:=d) (pos:=pos) (aft:=aft) (g:=g) he hnone h;subst e9;exact fin hr
     | false =>
       rw[hst] at h;obtain⟨h1,rfl⟩:=zU h;exact fin (q0U hp (qK he a1) (fun hq=>q6J (qK he a1) hq) (fun w hw=>aU hw) h1)
    ·cases h
   ·obtain⟨e9,hr⟩:=qCA (d:=d) (pos:=pos) (aft:=aft) (g:=g) he rfl h;subst e9;exact fin hr
   ·obtain⟨e9,hr⟩:=qCA (d:=d) (pos:=pos) (aft:=aft) (g:=g) he rfl h;subst e9;exact fin hr
   ·cases h
  ·cases h
theorem q7S (hp:Hp P Z H (own m ph))(hb:H.base<=H.size)(he:VRL P Z H (own m ph) env zFD)(hn:needs o.op=true->zY k env=true∧aD k ph=true)(h:q5F P o env k ph=some (y,ph')) :
 Res P Z H m ph (nw o.op k) y ph' (iop P o zFD H):=by
 unfold q5F at h;split at h
 ·rename_i it ho;obtain⟨h1,rfl⟩:=zU h;obtain⟨u,q1,q2⟩:=qZH hp (qK he it) h1;refine .same ?_ hp q2;unfold iop;rw[ho];show zFK.ofO H (qFQ (zFD.val it) H)=_;rw[q1];rfl
 ·exact q8S hp hb he hn h
end Go.Idl
namespace Go.Idl
variable [Gc]
variable {P:Program}{Z:Nat->Prop}{H:IH}{M:Nat->Option (Nat×PO)}{m:Nat->Nat}{ph:PHp}
variable {Z':Nat->Prop}{k:Nat}{ph':PHp}{v:Value}{vs:List Value}{xs:List PV}
def tZ (f:PHp->PV->Option (FV×PHp)):List PV->PHp->Option (List FV×PHp)
 | [],ph=>some ([],ph)
 | x::l,ph=>match f ph x with
   | some (y,ph1)=>(match tZ f l ph1 with
     | some (ys,ph2)=>some (y::ys,ph2)
     | none=>none)
   | none=>none
noncomputable def fz1 (P:Program):Nat->PHp->PV->Option (FV×PHp)
 | 0,ph,.f x=>some (x,ph)
 | 0,_,_=>none
 | n+1,ph,.f x=>some (x,ph)
 | n+1,ph,.own k t o c=>(match qA k ph with
   | some ob=>(match szT P ob.el with
     | some s=>cond (Nat.beq (t*s) ob.cs.length) (match tZ (fz1 P n) ((ob.cs.drop (o*s)).take (c*s)) (oK k ph) with
       | some (cs,ph')=>some (.l ob.el c cs,ph')
       | none=>none) none
     | none=>none)
   | none=>none)
 | n+1,ph,.asl el k t=>(match qA k ph with
   | some ob=>cond (Nat.beq t ob.cs.length&&(!spec P ob.el&&!ob.gr)) (match tZ (fz1 P n) ob.cs (oK k ph) with
      | some (cs,ph')=>some (.l el t cs,ph')
      | none=>none) none
   | none=>none)
 | n+1,_,_=>none
noncomputable def fzP (P:Program)(ph:PHp)(x:PV):Option (PV×PHp):=match x with
 | .agg cs=>(match tZ (fz1 P 4) cs ph with
   | some (ys,ph')=>some (.agg (ys.map .f),ph')
   | none=>none)
 | x=>(match fz1 P 4 ph x with
   | some (y,ph')=>some (.f y,ph')
   | none=>none)
noncomputable def fzA (P:Program):List PV->PHp->Option (List PV×PHp)
 | [],ph=>some ([],ph)
 | x::l,ph=>match fzP P ph x with
   | some (y,ph1)=>(match fzA P l ph1 with
     | some (ys,ph2)=>some (y::ys,ph2)
     | none=>none)
   | none=>none
structure Fz (P:Program) (Z:Nat->Prop) (H:IH) (m:Nat->Nat) (ph:PHp) (Z':Nat->Prop) (ph':PHp):Prop where
 hp:Hp P Z' H (own m ph')
 zle:∀ b,Z b->Z' b
 sub:∀ k ob,qA k ph'=some ob->qA k ph=some ob
 zGF:∀ b,Z' b->Z b∨dR (own m ph) b
theorem Fz.refl (h:Hp P Z H (own m ph)):Fz P Z H m ph Z ph:=⟨h,fun _ h=>h,fun _ _ h=>h,fun _ h=>.inl h⟩
theorem Fz.zHT (a:Fz P Z H m ph Z' ph'){r:Nat×PO}(h:own m ph' k=some r):own m ph k=some r:=by
 obtain⟨b,ob⟩:=r;obtain⟨h1,rfl⟩:=vX h;exact qM (a.sub k ob h1)
theorem Fz.trans {Z1 Z2:Nat->Prop}{ph1 ph2:PHp}(a:Fz P Z H m ph Z1 ph1)(b:Fz P Z1 H m ph1 Z2 ph2):Fz P Z H m ph Z2 ph2 :=
 ⟨b.hp,fun x h=>b.zle x (a.zle x h),fun k ob h=>a.sub k ob (b.sub k ob h),fun x h=>by
   rcases b.zGF x h with h | ⟨k,ob,h1,h2⟩
   ·exact a.zGF x h
   ·exact .inr ⟨k,ob,a.zHT h1,h2⟩⟩
theorem Fz.kr (a:Fz P Z H m ph Z' ph')(p:Nat->Bool):KR p (own m ph) (own m ph'):=fun k b ob h=>.inl ⟨ob,a.zHT h,rfl,rfl,rfl⟩
theorem Fz.step (a:Fz P Z H m ph Z' ph'):Step Z H (own m ph) Z' H (own m ph') :=
 ⟨zOV _,rfl,a.zle,fun _ _ _=>rfl,fun b h _=>a.zGF b h,fun b ⟨k,ob,h1,h2⟩ _=>⟨k,ob,a.zHT h1,h2⟩⟩
theorem Fz.vrl (a:Fz P Z H m ph Z' ph')(h:VRL P Z H (Go.Idl.own m ph) xs vs):VRL P Z' H (Go.Idl.own m ph') xs vs :=
 h.mono (p:=fun _=>false) a.zle (zOV _) (fun _ _ _=>rfl) (a.kr _) fun j hj=>by cases hj
theorem Fz.del (h:Hp P Z H (own m ph)){ob:PO}(hl:qA k ph=some ob)(hr:real ob):Fz P Z H m ph (fun b=>Z b∨b=m k) (oK k ph):=by
 have hsub:∀ j o,qA j (oK k ph)=some o->j≠k∧qA j ph=some o:=fun j o h=>by
  rw[yV] at h;split at h
  ·cases h
  ·rename_i hj;exact⟨hj,h⟩
 have hown:∀ j b o,own m (oK k ph) j=some (b,o)->j≠k∧own m ph j=some (b,o):=fun j b o h=>by
  obtain⟨h1,rfl⟩:=vX h;obtain⟨h2,h3⟩:=hsub j o h1;exact⟨h2,qM h3⟩
 obtain⟨w1,w2,w3⟩:=h.zKA hl hr;refine⟨⟨?_,?_,?_,h.gl.mono h.zlt (fun _ h=>.inl h) fun _ _ _=>rfl⟩,fun b h=>.inl h,fun j o h=>(hsub j o h).2,?_⟩
 ·rintro b (hb | rfl)
  ·exact h.zlt b hb
  ·exact w1
 ·intro j b o hj;obtain⟨h1,h2⟩:=hown j b o hj
  rcases h.obj j b o h2 with h3 | ⟨a1,a2,a3,a4⟩
  ·exact .inl h3
  ·by_cases hro:o.gr=true∧o.cs=[]
   ·exact .inl hro
   ·refine .inr ⟨a1,a2,?_,a4.mono rfl fun _ a5=>a5.mono (p:=fun _=>false) (fun _ h=>.inl h) (zOV _) (fun _ _ _=>rfl) (fun i b' o' hi=>.inl ⟨o',(hown i b' o' hi).2,rfl,rfl,rfl⟩) (fun j hj=>by cases hj)⟩;rintro (hz | rfl)
    ·exact a3 hz
    ·exact h.inj j k _ _ o ob h2 (qM hl) hro hr h1 rfl
 ·intro j j' b b' o o' h1 h2 r1 r2 hne;exact h.inj j j' b b' o o' (hown j b o h1).2 (hown j' b' o' h2).2 r1 r2 hne
 ·rintro b (hz | rfl)
  ·exact .inl hz
  ·exact .inr ⟨k,ob,qM hl,hr⟩
theorem Fz.drop (h:Hp P Z H (own m ph))(hs:∀ k ob,qA k ph'=some ob->qA k ph=some ob):Fz P Z H m ph Z ph':=by
 have hown:∀ j b o,own m ph' j=some (b,o)->own m ph j=some (b,o):=fun j b o h=>by
  obtain⟨h1,rfl⟩:=vX h;exact qM (hs j o h1)
 refine⟨⟨h.zlt,?_,?_,h.gl⟩,fun _ h=>h,hs,fun _ h=>.inl h⟩
 ·intro j b o hj
  rcases h.obj j b o (hown j b o hj) with h3 | ⟨a1,a2,a3,a4⟩
  ·exact .inl h3
  ·exact .inr ⟨a1,a2,a3,a4.mono rfl fun _ a5=>a5.mono (p:=fun _=>false) (fun _ h=>h) (zOV _) (fun _ _ _=>rfl) (fun i b' o' hi=>.inl ⟨o',hown i b' o' hi,rfl,rfl,rfl⟩) (fun j hj=>by cases hj)⟩
 ·intro j j' b b' o o' h1 h2 r1 r2 hne;exact h.inj j j' b b' o o' (hown j b o h1) (hown j' b' o' h2) r1 r2 hne
structure FRL (Z:Nat->Prop) (H:IH) (xs:List FV) (vs:List Value):Prop where
 len:xs.length=vs.length
 val:∀ (i:Nat) x v,xs[i]?=some x->vs[i]?=some v->FR Z H x v
theorem FRL.cons {x:FV}{xs:List FV}(h:FR Z H x v)(t:FRL Z H xs vs):FRL Z H (x::xs) (v::vs) :=
 ⟨by simp[t.len],fun i y u h1 h2=>by
   cases i with
   | zero=>simp at h1 h2;subst h1 h2;exact h
   | succ i=>exact t.val i y u (by simpa using h1) (by simpa using h2)⟩
theorem FRL.map {xs:List FV}(h:FRL Z H xs vs):VRL P Z H M (xs.map .f) vs:=qYP h.len h.val
theorem qA3 {f:PHp->PV->Option (FV×PHp)}(hf:∀ {Z:Nat->Prop} {ph:PHp} {x:PV} {y:FV} {ph':PHp} {v:Value},Hp P Z H (own m ph)->VR P Z H (own m ph) x v->f ph x=some (y,ph')->∃ Z',Fz P Z H m ph Z' ph'∧FR Z' H y v) :
 ∀ {xs:List PV} {vs:List Value} {Z:Nat->Prop} {ph:PHp} {ys:List FV} {ph':PHp},Hp P Z H (own m ph)->VRL P Z H (own m ph) xs vs->tZ f xs ph=some (ys,ph')->∃ Z',Fz P Z H m ph Z' ph'∧FRL Z' H ys vs
 | [],vs,Z,ph,ys,ph',hp,hx,h=>by
   simp only[tZ,zO1,Prod.mk.injEq] at h;obtain⟨rfl,rfl⟩:=h;rw[hx.zFJ];exact⟨Z,.refl hp,rfl,fun i x v h=>by simp at h⟩
 | x::xs,_,Z,ph,ys,ph',hp,hx,h=>by
   obtain⟨v,vs,rfl,h1,h2⟩:=hx.zFF;unfold tZ at h;split at h
   ·rename_i y ph1 hy;split at h
    ·rename_i ys' ph2 hys;cases h;obtain⟨Z1,c1,r1⟩:=hf hp h1 hy;obtain⟨Z2,c2,r2⟩:=qA3 hf c1.hp (c1.vrl h2) hys;exact⟨Z2,c1.trans c2,.cons (r1.mono c2.zle (zOV _) fun _ _ _=>rfl) r2⟩
    ·cases h
   ·cases h
theorem qLN:∀ (n:Nat) {Z:Nat->Prop} {ph:PHp} {x:PV} {y:FV} {ph':PHp} {v:Value},Hp P Z H (own m ph)->VR P Z H (own m ph) x v->fz1 P n ph x=some (y,ph')->∃ Z',Fz P Z H m ph Z' ph'∧FR Z' H y v
 | n,Z,ph,.f x,y,ph',v,hp,hx,h=>by
   have:some (x,ph)=some (y,ph'):=by cases n <;> exact h
   cases this
   cases hx with
   | f hx=>exact⟨Z,.refl hp,hx⟩
 | 0,Z,ph,.agg _,y,ph',v,hp,hx,h=>by cases h
 | 0,Z,ph,.tup _,y,ph',v,hp,hx,h=>by cases h
 | 0,Z,ph,.own _ _ _ _,y,ph',v,hp,hx,h=>by cases h
 | 0,Z,ph,.ref _ _ _,y,ph',v,hp,hx,h=>by cases h
 | 0,Z,ph,.lp _ _,y,ph',v,hp,hx,h=>by cases h
 | 0,Z,ph,.fn _ _ _,y,ph',v,hp,hx,h=>by cases h
 | 0,Z,ph,.unk,y,ph',v,hp,hx,h=>by cases h
 | 0,Z,ph,.yl _,y,ph',v,hp,hx,h=>by cases h
 | 0,Z,ph,.bq,y,ph',v,hp,hx,h=>by cases h
 | 0,Z,ph,.mp _,y,ph',v,hp,hx,h=>by cases h
 | 0,Z,ph,.asl _ _ _,y,ph',v,hp,hx,h=>by cases h
 | n+1,Z,ph,.agg _,y,ph',v,hp,hx,h=>by cases h
 | n+1,Z,ph,.tup _,y,ph',v,hp,hx,h=>by cases h
 | n+1,Z,ph,.ref _ _ _,y,ph',v,hp,hx,h=>by cases h
 | n+1,Z,ph,.lp _ _,y,ph',v,hp,hx,h=>by cases h
 | n+1,Z,ph,.fn _ _ _,y,ph',v,hp,hx,h=>by cases h
 | n+1,Z,ph,.unk,y,ph',v,hp,hx,h=>by cases h
 | n+1,Z,ph,.yl _,y,ph',v,hp,hx,h=>by cases h
 | n+1,Z,ph,.bq,y,ph',v,hp,hx,h=>by cases h
 | n+1,Z,ph,.mp _,y,ph',v,hp,hx,h=>by cases h
 | n+1,Z,ph,.own k t o c,y,ph',v,hp,hx,h=>by
   unfold fz1 at h;split at h
   ·rename_i ob hl;split at h
    ·rename_i s hs
     cases hc:Nat.beq (t*s) ob.cs.length with
     | false=>rw[hc] at h;cases h
     | true =>
       rw[hc] at h;simp only[cond_true] at h;have he:=zOU hc;split at h
       ·rename_i cs ph1 hf;cases h;obtain⟨hO,h0⟩:=wJ hx hl hs he
        rcases hO with ⟨g1,rfl,rfl,rfl,rfl⟩ | ⟨g1,g2,g3,rfl⟩
        ·have hc0:ob.cs=[]:=zP6.1 (by omega);rw[hc0] at hf;have hf':tZ (fz1 P n) [] (oK k ph)=some (cs,ph'):=by simpa using hf
         have:some (([]:List FV),oK k ph)=some (cs,ph'):=hf';cases this;refine⟨Z,.drop hp fun j o hj=>?_,.nil (fun _=>rfl) (fun x h=>by cases h)⟩;rw[yV] at hj;split at hj
         ·cases hj
         ·exact hj
        ·have hre:=eB he h0 g1;obtain⟨w1,w2,w3,vs,q1,q2,q3⟩:=hp.real hl hre (kG hs);have hcut:=Fz.del hp hl hre;have hle:(o+c)*s<=t*s:=zP3 _ g2;rw[zRF] at hle;obtain⟨Z2,c2,r2⟩:=qA3 (fun a b c=>qLN n a b c) hcut.hp (hcut.vrl ((q2.drop (o*s)).take (c*s))) hf;refine⟨Z2,hcut.trans c2,.l (vs:=(vs.drop (o*s)).take (c*s)) (c2.zle _ (.inr rfl)) w1 (by omega) (by cases ob.gr <;> simp) ?_ r2.val⟩
         have hcl:cs.length=c*s:=by
          rw[r2.len];simp only[zQE,zRK];rw[<-q2.len];omega
         rw[hcl];exact xS q1 (by rw[<-q2.len];omega) rfl
       ·cases h
    ·cases h
   ·cases h
 | n+1,Z,ph,.asl el k t,y,ph',v,hp,hx,h=>by
   unfold fz1 at h;split at h
   ·rename_i ob hl
    cases hc:(Nat.beq t ob.cs.length&&(!spec P ob.el&&!ob.gr)) with
    | false=>rw[hc] at h;cases h
    | true =>
      rw[hc] at h;simp only[cond_true] at h;simp only[zOT,zPN] at hc;obtain⟨c1,c2,c3⟩:=hc;have he:=zOU c1;split at h
      ·rename_i cs ph1 hf;cases h;have hre:real ob:=fun q=>by rw[c3] at q;cases q.1
       obtain⟨w1,w2,w3,vs,q1,q2,q3⟩:=hp.real hl hre c2;have hcut:=Fz.del hp hl hre;obtain⟨Z2,c4,r2⟩:=qA3 (fun a b c=>qLN n a b c) hcut.hp (hcut.vrl q2) hf
       cases hx with
       | asl _ hh =>
         obtain⟨_,hv⟩:=hh _ _ (qM hl);have:=hv he;subst this;refine⟨Z2,hcut.trans c4,.l (vs:=vs) (c4.zle _ (.inr rfl)) w1 (zOV _) (.inl rfl) ?_ r2.val⟩;exact xS q1 (by rw[r2.len,zPH];exact zOV _) (by rw[r2.len,zQH];exact zPI (zOV _))
      ·cases h
   ·cases h
theorem qIN {x y:PV}(hp:Hp P Z H (own m ph))(hx:VR P Z H (own m ph) x v)(h:fzP P ph x=some (y,ph')):∃ Z',Fz P Z H m ph Z' ph'∧VR P Z' H (fun _=>none) y v:=by
 unfold fzP at h;split at h
 ·rename_i cs;split at h
  ·rename_i ys ph1 hf;cases h
   cases hx with
   | agg hl hc =>
     rename_i vs;obtain⟨Z',c1,r1⟩:=qA3 (vs:=vs.toList) (fun a b c=>qLN 4 a b c) hp ⟨by simpa using hl,fun i x v a b=>hc i x v a (by simpa using b)⟩ hf;have:=(r1.map (P:=P) (M:=fun _=>none)).toA;exact⟨Z',c1,by simpa using this⟩
  ·cases h
 ·split at h
  ·rename_i y' ph1 hf;cases h;obtain⟨Z',c1,r1⟩:=qLN 4 hp hx hf;exact⟨Z',c1,.f r1⟩
  ·cases h
theorem VRL.none {H':IH}(h:VRL P Z H (fun _=>none) xs vs)(hz:∀ b,Z b->Z' b)(hs:H.size<=H'.size)(hg:∀ b,Z b->b < H.size->H'.get b=H.get b){M:Nat->Option (Nat×PO)}(hn:∀ k,M k=none):VRL P Z' H' M xs vs :=
 h.mono (p:=fun _=>false) hz hs hg (fun k b o hk=>by rw[hn] at hk;cases hk) fun j hj=>by cases hj
theorem qIP:∀ {xs:List PV} {vs:List Value} {Z:Nat->Prop} {ph:PHp} {ys:List PV} {ph':PHp},Hp P Z H (own m ph)->VRL P Z H (own m ph) xs vs->fzA P xs ph=some (ys,ph')->∃ Z',Fz P Z H m ph Z' ph'∧VRL P Z' H (fun _=>none) ys vs
 | [],vs,Z,ph,ys,ph',hp,hx,h=>by
   simp only[fzA,zO1,Prod.mk.injEq] at h;obtain⟨rfl,rfl⟩:=h;rw[hx.zFJ];exact⟨Z,.refl hp,.nil⟩
 | x::xs,_,Z,ph,ys,ph',hp,hx,h=>by
   obtain⟨v,vs,rfl,h1,h2⟩:=hx.zFF;unfold fzA at h;split at h
   ·rename_i y ph1 hy;split at h
    ·rename_i ys' ph2 hys;cases h;obtain⟨Z1,c1,r1⟩:=qIN hp h1 hy;obtain⟨Z2,c2,r2⟩:=qIP c1.hp (c1.vrl h2) hys;exact⟨Z2,c1.trans c2,.cons (r1.mono (p:=fun _=>false) c2.zle (zOV _) (fun _ _ _=>rfl) (.refl _ _) fun j hj=>by cases hj) r2⟩
    ·cases h
   ·cases h
end Go.Idl
namespace Go.Idl
variable [Gc]
variable {P:Program}{Z:Nat->Prop}{H:IH}{M:Nat->Option (Nat×PO)}{m:Nat->Nat}{ph:PHp}{G:Nat->Bool}
variable {H':IH}{M':Nat->Option (Nat×PO)}{Z':Nat->Prop}{env:List PV}{zFD:Env}{t:TypeId}{v:Value}{vs:Array Value}{x:PV}
theorem Hp.old (h:Hp P Z H (own m ph))(ho:Old H H')(hz:∀ b,Z b->Z' b)(hz1:∀ b,Z' b->b < H'.size)(hz2:∀ b,Z' b->b < H.size->Z b):Hp P Z' H' (own m ph):=by
 refine⟨hz1,fun k b ob hk=>?_,h.inj,h.gl.mono h.zlt hz fun b _ hb=>ho.get b hb⟩
 rcases h.obj k b ob hk with h1 | ⟨a1,a2,a3,a4⟩
 ·exact .inl h1
 ·exact .inr ⟨zOY a1 ho.size,by rw[ho.base];exact a2,fun h=>a3 (hz2 b h a1),a4.mono (ho.get b a1) fun _ a5=>a5.mono (p:=fun _=>false) hz ho.size (fun b _ hb=>ho.get b hb) (.refl _ _) (fun j hj=>by cases hj)⟩
theorem Step.old (ho:Old H H')(hz:∀ b,Z b->Z' b)(hz2:∀ b,Z' b->b < H.size->Z b):Step Z H M Z' H' M :=
 ⟨ho.size,ho.base,hz,fun b hb _=>ho.get b hb,fun b h hb=>.inl (hz2 b h hb),fun _ h _=>h⟩
def q7H:PV->Bool
 | .f (.v (.slice _ _ _))=>false
 | _=>true
def qUY:PV->Bool
 | .agg cs=>cs.all q7H
 | x=>q7H x
def vG:PV->Bool
 | .f (.v x)=>q7H (.f (.v x))
 | .agg cs=>(qLZ cs).isSome&&cs.all q7H
 | .tup cs=>(plL cs).isSome&&cs.all qUY
 | _=>false
theorem qOG (h:VR P Z H M x v)(hp:(pl1 x).isSome=true)(Z':Nat->Prop)(H':IH)(M':Nat->Option (Nat×PO)):VR P Z' H' M' x v:=by
 unfold pl1 at hp;split at hp
 ·cases h with
  | f h=>cases h with
    | v a b=>exact .f (.v a b)
 ·cases hp
theorem qG0 (Z':Nat->Prop)(H':IH)(M':Nat->Option (Nat×PO)):∀ {xs:List PV} {vs:List Value},VRL P Z H M xs vs->(qLZ xs).isSome=true->VRL P Z' H' M' xs vs
 | [],vs,h,_=>by rw[h.zFJ];exact .nil
 | x::xs,_,h,hp=>by
   obtain⟨v,vs,rfl,h1,h2⟩:=h.zFF;unfold qLZ at hp;split at hp
   ·rename_i a ha;split at hp
    ·rename_i as has;exact .cons (qOG h1 (by rw[ha];rfl) _ _ _) (qG0 Z' H' M' h2 (by rw[has];rfl))
    ·cases hp
   ·cases hp
theorem VR.zHZ {cs:List PV}(h:VR P Z H M (.agg cs) v):∃ vs,v=.agg vs∧VRL P Z H M cs vs.toList:=by
 cases h with
 | agg hl hc=>exact⟨_,rfl,by simpa using hl,fun i x v a b=>hc i x v a (by simpa using b)⟩
theorem VR.zJU {cs:List PV}(h:VR P Z H M (.tup cs) v):∃ vs,v=.tuple vs∧VRL P Z H M cs vs.toList:=by
 cases h with
 | tup hl hc=>exact⟨_,rfl,by simpa using hl,fun i x v a b=>hc i x v a (by simpa using b)⟩
theorem VRL.agg' {cs:List PV}(h:VRL P Z H M cs vs.toList):VR P Z H M (.agg cs) (.agg vs):=.agg (by simpa using h.len) fun i x v a b=>h.val i x v a (by simpa using b)
theorem VRL.zHU {cs:List PV}(h:VRL P Z H M cs vs.toList):VR P Z H M (.tup cs) (.tuple vs):=.tup (by simpa using h.len) fun i x v a b=>h.val i x v a (by simpa using b)
theorem zAF (h:VR P Z H M x v)(hp:(pl x).isSome=true)(Z':Nat->Prop)(H':IH)(M':Nat->Option (Nat×PO)):VR P Z' H' M' x v:=by
 unfold pl at hp;split at hp
 ·exact qOG h rfl _ _ _
 ·rename_i cs;obtain⟨vs,rfl,hr⟩:=h.zHZ;refine (qG0 Z' H' M' hr ?_).agg';split at hp
  ·rename_i as has;rw[has];rfl
  ·cases hp
 ·cases hp
theorem qT1 (Z':Nat->Prop)(H':IH)(M':Nat->Option (Nat×PO)):∀ {xs:List PV} {vs:List Value},VRL P Z H M xs vs->(plL xs).isSome=true->VRL P Z' H' M' xs vs
 | [],vs,h,_=>by rw[h.zFJ];exact .nil
 | x::xs,_,h,hp=>by
   obtain⟨v,vs,rfl,h1,h2⟩:=h.zFF;unfold plL at hp;split at hp
   ·rename_i a ha;split at hp
    ·rename_i as has;exact .cons (zAF h1 (by rw[ha];rfl) _ _ _) (qT1 Z' H' M' h2 (by rw[has];rfl))
    ·cases hp
   ·cases hp
theorem qET (h:VR P Z H M x v)(hp:vG x=true)(Z':Nat->Prop)(H':IH)(M':Nat->Option (Nat×PO)):VR P Z' H' M' x v:=by
 unfold vG at hp;split at hp
 ·exact qOG h rfl _ _ _
 ·obtain⟨vs,rfl,hr⟩:=h.zHZ;rw[zOT] at hp;exact (qG0 Z' H' M' hr hp.1).agg'
 ·obtain⟨vs,rfl,hr⟩:=h.zJU;rw[zOT] at hp;exact (qT1 Z' H' M' hr hp.1).zHU
 ·cases hp
def vZ (P:Program):Nat->TypeId->List TypeId
 | 0,t=>[t]
 | n+1,t=>match P.underlying t with
   | some (.struct fields)=>fields.toList.flatMap fun f=>vZ P n f.type
   | some (.array k el)=>(List.replicate k (vZ P n el)).flatten
   | _=>[t]
def rt0 (P:Program)(t:TypeId):PV->PV
 | .f (.v (.slice none 0 0))=>match zN P t with
   | some el=>.f (.l el 0 [])
   | none=>fvv (.slice none 0 0)
 | x=>x
def rtC [Gc](P:Program)(t:TypeId)(x:PV):PV:=cond (Gc.ol t) x (rt0 P t x)
def rtL (f:TypeId->PV->PV):List TypeId->List PV->List PV
 | t::ts,x::xs=>f t x::rtL f ts xs
 | _,xs=>xs
def rt1 (P:Program)(t:TypeId):PV->PV
 | .agg cs=>.agg (rtL (rtC P) (vZ P 8 t) cs)
 | x=>rt0 P t x
def rtA (P:Program)(g:FuncId)(args:List PV):List PV:=match P.funcs[g]? with
 | some fn=>rtL (rt1 P) fn.params.toList args
 | none=>args
theorem q5B (h:VR P Z H M x v):VR P Z H M (rt0 P t x) v:=by
 unfold rt0;split
 ·split
  ·have:=yI h rfl;subst this;exact .f (.nil (fun _=>rfl) fun _ h=>by cases h)
  ·exact h
 ·exact h
theorem q4U (h:VR P Z H M x v):VR P Z H M (rtC P t x) v:=by
 unfold rtC;cases Gc.ol t
 ·exact q5B h
 ·exact h
theorem qE8 {f:TypeId->PV->PV}(hf:∀ t x v,VR P Z H M x v->VR P Z H M (f t x) v):∀ {ts:List TypeId} {xs:List PV} {vs:List Value},VRL P Z H M xs vs->VRL P Z H M (rtL f ts xs) vs
 | [],xs,vs,h=>by cases xs <;> exact h
 | t::ts,[],vs,h=>h
 | t::ts,x::xs,vs,h=>by
   obtain⟨v,vs',rfl,h1,h2⟩:=h.zFF;exact .cons (hf t x v h1) (qE8 hf h2)
theorem qFH (h:VR P Z H M x v):VR P Z H M (rt1 P t x) v:=by
 unfold rt1;split
 ·obtain⟨vs,rfl,hr⟩:=h.zHZ;exact (qE8 (fun t x v h=>q4U h) hr).agg'
 ·exact q5B h
theorem q9R {g:FuncId}{xs:List PV}{vs:List Value}(h:VRL P Z H M xs vs):VRL P Z H M (rtA P g xs) vs:=by
 unfold rtA;split
 ·exact qE8 (fun t x v h=>qFH h) h
 ·exact h
abbrev u6:=FuncId->List PV->Option PV
def Ctr (P:Program)(k:List Value->IH->T (Value×IH))(zHG:List PV)(r:PV):Prop :=
 ∀ (Z:Nat->Prop) (H:IH) (args:List Value),VRL P Z H (fun _=>none) zHG args->(∀ b,Z b->b < H.size)->H.base<=H.size->q4L Z H->∀ Q:Value×IH->Prop,
  (∀ v H' (Z':Nat->Prop),Old H H'->(∀ b,Z b->Z' b)->(∀ b,Z' b->b < H'.size)->(∀ b,Z' b->b < H.size->Z b)->VR P Z' H' (fun _=>none) r v->Q (v,H'))->(k args H).holds Q
def qTQ:PV->Bool
 | .f _=>true
 | _=>false
def qL3:PV->Bool
 | .agg cs=>cs.all qTQ
 | x=>qTQ x
def q6Q:PV->Bool
 | .tup cs=>cs.all qL3
 | x=>qL3 x
theorem qPW (h:VR P Z H M x v)(hp:qTQ x=true):VR P Z H M' x v:=by
 unfold qTQ at hp;split at hp
 ·cases h with
  | f h=>exact .f h
 ·cases hp
theorem dL (h:VR P Z H M x v)(hp:qL3 x=true):VR P Z H M' x v:=by
 unfold qL3 at hp;split at hp
 ·obtain⟨vs,rfl,hr⟩:=h.zHZ;exact VRL.agg' ⟨hr.len,fun i x v a b=>qPW (hr.val i x v a b) (zOW.1 hp x (zP4 a))⟩
 ·exact qPW h hp
theorem q3V (h:VR P Z H M x v)(hp:q6Q x=true):VR P Z H M' x v:=by
 unfold q6Q at hp;split at hp
 ·obtain⟨vs,rfl,hr⟩:=h.zJU;exact VRL.zHU ⟨hr.len,fun i x v a b=>dL (hr.val i x v a b) (zOW.1 hp x (zP4 a))⟩
 ·exact dL h hp
def qSL (P:Program)(nat:xB)(tab:u6):Prop:=∀ g zHG r,tab g zHG=some r->enters P g=true∧q6Q r=true∧∃ k,nat g=some k∧Ctr P k zHG r
structure Nm where
 b:Nat
 p:Nat->Bool
def qMJ (P:Program)(g:FuncId):Bool:=match P.funcs[g]? with
 | some fn=>fn.body.isNone&&!(fn.name == "internal/abi.NoEscape" && fn.origin == "")
 | none=>false
def qD2 (P:Program)(G:Nat->Bool)(nm:Nm)(g:FuncId)(args:List PV)(ph:PHp)(R:PV->PHp->Prop):Prop :=
 (qMJ P g=true∧∃ vs v,plL args=some vs∧(zM vs&&jG (xQ 2) vs)=true∧xM P (callFunc g vs.toArray)=some (.value v)∧qLY v=true∧R (ofC v) ph) ∨
 enters P g=true∧∀ (Z:Nat->Prop) (H:IH) (m:Nat->Nat) (zFQ:List Value),Hp P Z H (own m ph)->H.base<=H.size->VRL P Z H (own m ph) args zFQ ->
  uU P G g zFQ H fun r=>∃ Z' m' pv ph',Hp P Z' r.2 (own m' ph')∧VR P Z' r.2 (own m' ph') pv r.1∧Step Z H (own m ph) Z' r.2 (own m' ph')∧KR nm.p (own m ph) (own m' ph')∧R pv ph'
inductive PE where
 | fail
 | ok (v:PV) (ph:PHp)
 | call (g:FuncId) (args:List PV) (ph:PHp)
 | rnd (l:Nat) (args:List PV) (ph:PHp)
inductive PT where
 | fail
 | ret (env:List PV) (ph:PHp)
 | chk (c:Bool) (t:PT)
 | call (nm:Nm) (g:FuncId) (args:List PV) (ph:PHp) (k:PV->PHp->PT)
 | rnd (l:Nat) (args:List PV) (ph:PHp) (k:PV->PHp->PT)
def PT.holds (P:Program)(G:Nat->Bool)(Q:List PV->PHp->Prop):PT->Prop
 | .fail=>False
 | .ret env ph=>Q env ph
 | .chk c t=>c=true∧t.holds P G Q
 | .call nm g args ph k=>∃ R,qD2 P G nm g args ph R∧∀ v ph',R v ph'->(k v ph').holds P G Q
 | .rnd _ _ _ _=>False
noncomputable def aF (P:Program)(tab:u6)(g:FuncId)(args:List PV)(ph:PHp):PE:=match fzA P args ph with
 | some (zGJ,ph1)=>(match tab g (rtA P g zGJ) with
   | some r=>.ok r (cond (vG r) ph ph1)
   | none=>.fail)
 | none=>.fail
noncomputable def mO (P:Program)(tab:u6)(inl:FuncId->Bool)(g:FuncId)(args:List PV)(ph:PHp):PE:=cond (inl g) (.call g args ph) (aF P tab g args ph)
noncomputable def oZ (P:Program)(tab:u6)(inl:FuncId->Bool)(fv:PV)(args:List PV)(ph:PHp):PE:=match fv with
 | .f (.v (.func (.func g) a c))=>cond (a.toList.isEmpty&&c.toList.isEmpty) (mO P tab inl g args ph) .fail
 | .yl l=>.rnd l args ph
 | .fn g first cap=>mO P tab inl g (first++(args++cap)) ph
 | _=>.fail
def peO:Option (PV×PHp)->PE
 | some r=>.ok r.1 r.2
 | none=>.fail
noncomputable def bI (P:Program)(tab:u6)(inl:FuncId->Bool)(k:Nat)(o:Oper)(env:List PV)(ph:PHp):PE:=match o.op with
 | .call ⟨.value f,args,_⟩=>oZ P tab inl (qJ env f) (args.toList.map (qJ env)) ph
 | _=>peO (q5F P o env k ph)
def qP8 (want:Bool):PV->Option Bool
 | .f (.v (.bool b))=>some (b==want)
 | .tup cs=>cond cs.isEmpty (some false) none
 | _=>none
noncomputable def qP5 (w:Bool)(env:List PV):Option Tmp->Option Bool
 | some t=>(match zG env t with
   | some v=>qP8 w v
   | none=>none)
 | none=>some false
noncomputable def vO (ds:List (Option Tmp))(o:Oper)(env:List PV):Option Bool:=match o.guard with
 | none=>some true
 | some (j,w)=>qP5 w env (qR5 ds j)
def wid (b:Nat):Nat:=cond (Nat.blt b 1000) 1 (cond (Nat.blt b 1000000) 1000 (cond (Nat.blt b 1000000000) 1000000 (cond (Nat.blt b 1000000000000) 1000000000 (cond (Nat.blt b 1000000000000000) 1000000000000 (cond (Nat.blt b 1000000000000000000) 1000000000000000 (cond (Nat.blt b 1000000000000000000000) 1000000000000000000 (cond (Nat.blt b 1000000000000000000000000) 1000000000000000000000 1000000000000000000000000)))))))
def inB (b k:Nat):Bool:=Nat.beq ((k / 1000) % wid b) (b / 1000)
def inP (nm:Nm)(k:Nat):Bool:=nm.p k
def qV3 (nm:Nm)(g:FuncId):Nm:=⟨nm.b+wid nm.b*1000*(g+1),fun k=>inB (nm.b+wid nm.b*1000*(g+1)) k&&nm.p k⟩
def zEL (b k:Nat):Bool:=inB b k&&Nat.blt (k % 1000) 900
mutual
def noP (p:Nat->Bool):PV->Bool
 | .f _=>true
 | .agg cs=>sZ p cs
 | .tup cs=>sZ p cs
 | .own j _ _ _=>!p j
 | .ref j _ _=>!p j
 | .lp _ _=>true
 | .fn _ a b=>sZ p a&&sZ p b
 | .yl _=>true
 | .bq=>true
 | .unk=>true
 | .mp j=>!p j
 | .asl _ j _=>!p j
def sZ (p:Nat->Bool):List PV->Bool
 | []=>true
 | x::l=>noP p x&&sZ p l
end
def q1B (p:Nat->Bool):PHp->Bool
 | []=>true
 | (_,o)::ph=>sZ p o.cs&&q1B p ph
def q5D (nm:Nm)(j:FuncId)(env:List PV)(ph:PHp):Bool:=sZ (inB (nm.b+wid nm.b*1000*(j+1))) env&&((ph.all fun x=>!inB (nm.b+wid nm.b*1000*(j+1)) x.1||nm.p x.1)&&q1B (zEL (nm.b+wid nm.b*1000*(j+1))) ph)
def qJ3 (nm:Nm)(g:FuncId)(env:List PV)(ph:PHp):FuncId:=cond (q5D nm g env ph) g (cond (q5D nm (g+333) env ph) (g+333) (cond (q5D nm (g+666) env ph) (g+666) g))
def clean (p:Nat->Bool)(env:List PV):PHp->Bool
 | []=>true
 | (k,_)::ph=>(!p k||zY k env)&&clean p env ph
def qH (nm:Nm)(d:Option Tmp):Nat:=match d with
 | some t=>nm.b+t
 | none=>nm.b
def fresh (nm:Nm)(k:Nat)(env:List PV)(ph:PHp):Bool:=inP nm k&&(zY k env&&aD k ph)
def q88 (c:Bool)(k:Nat)(nm:Nm)(env:List PV)(ph:PHp)(t:PT):PT:=cond c (.chk (fresh nm k env ph) t) t
noncomputable def pops (P:Program)(tab:u6)(inl:FuncId->Bool)(nm:Nm)(ds:List (Option Tmp)):List Oper->List PV->PHp->PT
 | [],env,ph=>.ret env ph
 | o::l,env,ph=>vK (vO ds o env)
    (match bI P tab inl (qH nm o.dst) o env ph with
     | .fail=>.fail
     | .ok v ph'=>q88 (needs o.op) (qH nm o.dst) nm env ph (pops P tab inl nm ds l (yO env o.dst v) ph')
     | .call g args ph'=>.call (qV3 nm (qJ3 nm g env ph')) g args ph' fun v ph2=>.chk (clean (qV3 nm (qJ3 nm g env ph')).p env ph2) (pops P tab inl nm ds l (yO env o.dst v) ph2)
     | .rnd x args ph'=>.rnd x args ph' fun v ph2=>pops P tab inl nm ds l (yO env o.dst v) ph2)
    (pops P tab inl nm ds l (yO env o.dst (.tup [])) ph) .fail
theorem KR.trans {p:Nat->Bool}{M1 M2 M3:Nat->Option (Nat×PO)}(a:KR p M1 M2)(b:KR p M2 M3):KR p M1 M3:=fun k b' ob' h=>by
 rcases b k b' ob' h with ⟨ob,h1,h2,h3,h4⟩ | ⟨b1,ob,h1,h2,h3,hb1⟩ | h
 ·rcases a k b' ob h1 with ⟨o2,q1,q2,q3,q4⟩ | ⟨b2,o2,q1,q2,q3,qb2⟩ | q
  ·exact .inl ⟨o2,q1,q2.trans h2,q3.trans h3,q4.trans h4⟩
  ·exact .inr (.inl ⟨b2,o2,q1,by omega,q3.trans h3,qb2⟩)
  ·exact .inr (.inr q)
 ·rcases a k b1 ob h1 with ⟨o2,q1,q2,q3,q4⟩ | ⟨b2,o2,q1,q2,q3,qb2⟩ | q
  ·exact .inr (.inl ⟨b1,o2,q1,by omega,q3.trans h3,fun hh=>hb1 (by rw[<-q3];exact hh)⟩)
  ·exact .inr (.inl ⟨b2,o2,q1,by omega,q3.trans h3,fun hh=>(qb2 hh).trans (hb1 (by rw[<-q3];exact hh))⟩)
  ·exact .inr (.inr q)
 ·exact .inr (.inr h)
theorem KR.up {p q:Nat->Bool}{M1 M2:Nat->Option (Nat×PO)}(a:KR p M1 M2)(h:∀ k,p k=true->q k=true):KR q M1 M2:=fun k b ob hk=>by
 rcases a k b ob hk with h1 | h1 | h1
 ·exact .inl h1
 ·exact .inr (.inl h1)
 ·exact .inr (.inr (h k h1))
theorem VRL.zFZ (h:VRL P Z H M env zFD)(hx:VR P Z H M x v)(d:Option Tmp):VRL P Z H M (yO env d x) (zFD.zFZ d v):=by
 cases d with
 | none=>exact h
 | some t =>
   show VRL P Z H M (yP env t x) (yP zFD t v);rw[qV,qV];exact h.set hx t
theorem sP {ops:Array Oper}{o:Oper}{b:Bool}(he:VRL P Z H M env zFD)(h:vO (ops.toList.map (·.dst)) o env=some b):kU ops o zFD=some b:=by
 rw[qM0];unfold vO at h;unfold qPF;split at h
 ·rename_i hg;rw[hg];exact h
 ·rename_i j w hg;rw[hg];simp only;unfold qP5 at h;unfold qTN;split at h
  ·rename_i t ht;rw[ht];simp only;split at h
   ·rename_i v hv;rw[qF] at hv;obtain⟨u,h1,h2⟩:=he.get hv;unfold zB7;rw[qF,h1];unfold qP8 at h;split at h
    ·have:=yI h2 rfl;subst this;exact h
    ·rename_i cs
     cases hc:cs.isEmpty with
     | false=>rw[hc] at h;cases h
     | true =>
       rw[hc] at h;obtain⟨vs,rfl,hr⟩:=h2.zJU
       have:cs=[]:=by cases cs with
        | nil=>rfl
        | cons=>cases hc
       subst this;have h3:=hr.zFJ;have:vs=#[]:=by simpa using h3
       subst this;exact h
    ·cases h
   ·cases h
  ·rename_i ht;rw[ht];exact h
end Go.Idl
namespace Go.Idl
variable [Gc]
variable {P:Program}{Z:Nat->Prop}{H:IH}{m:Nat->Nat}{ph:PHp}{G:Nat->Bool}{nat:xB}{tab:u6}{inl:FuncId->Bool}{nm:Nm}
variable {F:Fence}{K:Act->World->Prop}{Q:Value×IH->Prop}{Qx:Exit->Act->World->Prop}{a:Act}{args:List Value}{as env:List PV}{f:Inj}{g:FuncId}{zFD:Env}{o:Oper}{zFR:Array Operand}{ph':PHp}{ts:Array TypeId}{w:World}{x:Operand}
def jS:Job->IH->T Out:=fun _ _=>.fail
theorem qFE (hs:vR P G nat):kL P G (yH jS nat):=by
 intro g args args' H f w Q hR hG ha h;unfold yH at h;split at h
 ·rename_i k hk;exact hs g k hk args args' H f w Q hR hG ha h
 ·exact h.elim
theorem rV:jI P G jS:=by
 intro l args args' H f w e Q hR hG he ha hq;exact hq.elim
theorem qXM:vR P G fun _=>none:=fun g k h=>by cases h
noncomputable def mJ (g:FuncId)(args:List Value)(H:IH)(Q:Value×IH->Prop):xB:=by
 classical
 exact fun g1=>if g1=g then some (fun a h=>if a=args∧h=H then .sp Q .ret else .fail) else none
theorem qXW {H:IH}(h:uU P G g args H Q):vR P G (mJ g args H Q):=by
 classical
 intro g1 k hk zLJ args' H1 f1 w1 Q1 hR1 hG1 ha1 hq1;unfold mJ at hk;split at hk
 ·rename_i hg1;subst hg1;cases hk;change T.holds Q1 (if zLJ=args∧H1=H then T.sp Q T.ret else T.fail) at hq1;split at hq1
  ·rename_i hc;obtain⟨rfl,rfl⟩:=hc;exact (h.mono fun r hr=>hq1 r hr) args' f1 w1 hR1 hG1 ha1
  ·exact hq1.elim
 ·cases hk
theorem qOB {H:IH}:yH jS (mJ g args H Q) g args H=.sp Q .ret:=by
 classical
 unfold yH mJ;simp
def target (fv:PV)(args:List PV):Option (FuncId×List PV):=match fv with
 | .f (.v (.func (.func g) a c))=>cond (a.toList.isEmpty&&c.toList.isEmpty) (some (g,args)) none
 | .fn g first cap=>some (g,first++(args++cap))
 | _=>none
theorem nP {fv:PV}{args:List PV}{r:PE}(h:oZ P tab inl fv args ph=r)(hr:r≠.fail)(hr2:∀ x a p,r≠.rnd x a p):∃ g as,target fv args=some (g,as)∧mO P tab inl g as ph=r:=by
 unfold oZ at h;unfold target;split at h
 ·rename_i g a c
  cases hc:(a.toList.isEmpty&&c.toList.isEmpty) with
  | false=>rw[hc] at h;exact absurd h.symm hr
  | true=>rw[hc] at h;exact⟨g,args,(by simp only;rw[hc];rfl),h⟩
 ·exact absurd h.symm (hr2 _ _ _)
 ·exact⟨_,_,rfl,h⟩
 ·exact absurd h.symm hr
theorem nZ (he:VRL P Z H (own m ph) env zFD)(h:target (qJ env x) (zFR.toList.map (qJ env))=some (g,as))(hent:enters P g=true) :
 ∃ zFQ,yG P o ⟨.value x,zFR,ts⟩ zFD H=some (.enter g zFQ H)∧VRL P Z H (own m ph) as zFQ:=by
 have hx:=qK he x;have ha:=VRL.of he zFR.toList;unfold target at h;split at h
 ·rename_i g' a c hfv;rw[hfv] at hx;have hv:=yI hx rfl
  cases hc:(a.toList.isEmpty&&c.toList.isEmpty) with
  | false=>rw[hc] at h;cases h
  | true =>
    rw[hc] at h;cases h;rw[zOT] at hc;have e1:a.toList=[]:=by simpa using hc.1
    have e2:c.toList=[]:=by simpa using hc.2
    refine⟨_,qKZ hv hent,?_⟩;rw[e1,e2,xI];simpa [aZ] using ha
 ·rename_i g' first cap hfv
  cases h;rw[hfv] at hx
  cases hv:zFD.val x with
  | func fn fs cs =>
    rw[hv] at hx
    cases hx with
    | fn hf hc hfc hcc =>
      refine⟨_,qKZ hv hent,?_⟩;rw[aZ,aZ,xI];exact VRL.append ⟨by simpa using hf,fun i x v a b=>hfc i x v a (by simpa using b)⟩ (ha.append ⟨by simpa using hc,fun i x v a b=>hcc i x v a (by simpa using b)⟩)
  | _=>rw[hv] at hx;cases hx
 ·cases h
theorem q9C (nm:Nm){k:Nat}(h:fresh nm k env ph=true):inP nm k=true∧zY k env=true∧aD k ph=true:=by
 unfold fresh at h;simp only[zOT] at h;exact h
theorem qOQ (hF:aY F)(hns:vR P G nat)(ht:qSL P nat tab){v:PV}(hR:Rel P f H w)(hG:gG G f)(zFL:qD P f zFD a.tmps.toList)
 (hok:o.op.operands.toList.all (jB (qX f))=true) (hp:Hp P Z H (own m ph)) (hb:H.base<=H.size) (he:VRL P Z H (own m ph) env zFD) (hx:bI P tab inl (qH nm o.dst) o env ph=.ok v ph') (hn:needs o.op=true->fresh nm (qH nm o.dst) env ph=true)
 (hK:∀ (Z':Nat->Prop) (m':Nat->Nat) (u:Value) (H':IH) (f':Inj) (v':Value) (w':World),Hp P Z' H' (own m' ph')->VR P Z' H' (own m' ph') v u->VRL P Z' H' (own m' ph') env zFD->Step Z H (own m ph) Z' H' (own m' ph')->KR (inP nm) (own m ph) (own m' ph') ->
   Rel P f' H' w'->Grow f H w f' H' w'->zFE P f' u v'->K (a.put o.dst v') w'):o.wpIn F 0 P a w K Qx:=by
 have plain:peO (q5F P o env (qH nm o.dst) ph)=.ok v ph'->o.wpIn F 0 P a w K Qx:=fun hx=>by
  unfold peO at hx;split at hx
  ·rename_i r hr;cases hx;obtain⟨u,H',Z',m',h1,h2,h3,h4,h5⟩:=q7S hp hb he (fun h=>(q9C nm (hn h)).2) hr;refine wG (run:=jS) (nat:=fun _=>none) (G:=G) (Q:=fun r=>r=(u,H')) hF (qFE qXM) rV hR hG zFL hok ?_ ?_
   ·unfold tO;rw[h1];rfl
   ·rintro r v' w' f' rfl k1 k2 k3;refine hK Z' m' u H' f' v' w' h2 h3 ?_ h4 ?_ k1 k2 k3
    ·refine he.mono h4.zle h4.size (hp.zG7 h4) h5 fun j hj=>?_
     unfold nw at hj;rw[zOT] at hj;have:j=qH nm o.dst:=by simpa using hj.2
     subst this;exact (q9C nm (hn hj.1)).2.1
    ·refine h5.up fun j hj=>?_
     unfold nw at hj;rw[zOT] at hj;have:j=qH nm o.dst:=by simpa using hj.2
     subst this;exact (q9C nm (hn hj.1)).1
  ·cases hx
 unfold bI at hx;split at hx
 ·rename_i x zFR ts hop;obtain⟨g,as,h1,h2⟩:=nP hx (fun h=>by cases h) (fun _ _ _ h=>by cases h);unfold mO at h2
  cases hi:inl g with
  | true=>rw[hi] at h2;cases h2
  | false =>
    rw[hi] at h2;simp only[cond_false] at h2;unfold aF at h2;split at h2
    ·rename_i zGJ ph1 hfz;split at h2
     ·rename_i r hr
      have hv:r=v∧cond (vG r) ph ph1=ph':=by
       injection h2 with e1 e2;exact⟨e1,e2⟩
      obtain⟨rfl,hph⟩:=hv;obtain⟨hent,hfr,k,hk,zKV⟩:=ht g _ r hr;obtain⟨zFQ,q1,q2⟩:=nZ (o:=o) (ts:=ts) he h1 hent;obtain⟨Z1,c1,r1⟩:=qIP hp q2 hfz
      let Q:Value×IH->Prop:=fun x=>∃ Z':Nat->Prop,Old H x.2∧(∀ b,Z1 b->Z' b)∧(∀ b,Z' b->b < x.2.size)∧(∀ b,Z' b->b < H.size->Z1 b)∧VR P Z' x.2 (fun _=>none) r x.1
      have hQ:(k zFQ H).holds Q:=zKV Z1 H zFQ (q9R r1) c1.hp.zlt hb c1.hp.gl Q fun v H' Z' a1 a2 a3 a4 a5=>⟨Z',a1,a2,a3,a4,a5⟩
      refine wG (run:=jS) (nat:=nat) (G:=G) (Q:=Q) hF (qFE hns) rV hR hG zFL hok ?_ ?_
      ·have:iop P o zFD H=some (.enter g zFQ H):=by
        unfold iop;rw[hop];exact q1
       unfold tO;rw[this];show (yH jS nat g zFQ H).holds Q;unfold yH;rw[hk];exact hQ
      ·rintro⟨u,H'⟩ v' w' f' ⟨Z',a1,a2,a3,a4,a5⟩ k1 k2 k3
       cases hpl:vG r with
       | true =>
         rw[hpl] at hph;have hph:ph=ph':=hph;subst hph;have z1:∀ b,Z b->b < H'.size:=fun b hb=>zOY (hp.zlt b hb) a1.size
         exact hK Z m u H' f' v' w' (hp.old a1 (fun _ h=>h) z1 (fun _ h _=>h)) (qET a5 hpl _ _ _) (he.mono (p:=fun _=>false) (fun _ h=>h) a1.size (fun b _ hb=>a1.get b hb) (.refl _ _) (fun j hj=>by cases hj)) (.old a1 (fun _ h=>h) (fun _ h _=>h)) (.refl _ _) k1 k2 k3
       | false =>
         rw[hpl] at hph;have hph:ph1=ph':=hph;subst hph;exact hK Z' m u H' f' v' w' (c1.hp.old a1 a2 a3 a4) (q3V a5 hfr) ((c1.vrl he).mono (p:=fun _=>false) a2 a1.size (fun b _ hb=>a1.get b hb) (.refl _ _) (fun j hj=>by cases hj)) (c1.step.trans (.old a1 a2 a4)) (c1.kr _) k1 k2 k3
     ·cases h2
    ·cases h2
 ·exact plain hx
theorem q3N {f:Operand}{env:Env}{fs cs:Array Value}(hv:env.val f=.func (.func g) fs cs)(hx:qMJ P g=true):fK P ⟨.value f,zFR,ts⟩ env H=none:=by
 unfold qMJ at hx;unfold fK;simp only[hv];split at hx
 ·rename_i fn hfn;rw[zOT,zPN] at hx;simp only[hfn]
  have h1:fn.body.isSome=false:=by
   cases hb:fn.body with
   | none=>rfl
   | some c=>rw[hb] at hx;cases hx.1
  rw[h1,hx.2];simp
 ·cases hx
theorem qM4:∀ {xs ys:List PV} {vs:List Value},plL (xs++ys)=some vs->∃ a b,vs=a++b∧plL xs=some a∧plL ys=some b
 | [],ys,vs,h=>⟨[],vs,rfl,rfl,h⟩
 | x::xs,ys,vs,h=>by
   rw[zQY] at h;unfold plL at h;split at h
   ·rename_i v hv;split at h
    ·rename_i l hl;cases h;obtain⟨a,b,rfl,h1,h2⟩:=qM4 hl;refine⟨v::a,b,rfl,?_,h2⟩;unfold plL;rw[hv,h1]
    ·cases h
   ·cases h
theorem q77 {vs:List Value}{v:Value}(hop:o.op=.call ⟨.value x,zFR,ts⟩)(he:VRL P Z H (own m ph) env zFD)(h:target (qJ env x) (zFR.toList.map (qJ env))=some (g,as))(hx:qMJ P g=true)(hp:plL as=some vs)(zLK:(zM vs&&jG (xQ 2) vs)=true)
 (hs:xM P (callFunc g vs.toArray)=some (.value v)) (hd:qLY v=true):iop P o zFD H=some (.val v H):=by
 have hx0:=qK he x;have ha:=VRL.of he zFR.toList;rw[zOT] at zLK;obtain⟨hpl,hp2⟩:=zLK
 have key:∀ fs cs,zFD.val x=.func (.func g) fs cs->fs.toList++(kY zFD.val zFR.toList++cs.toList)=vs->zW (zFD.val x)=true->iop P o zFD H=some (.val v H):=fun fs cs hv hvs hpv=>by
  unfold iop;rw[hop];show yG P o ⟨.value x,zFR,ts⟩ zFD H=_;unfold yG;rw[q3N hv hx];unfold jK
  have hpo:zM (kY zFD.val o.op.operands.toList)=true:=by
   rw[hop];have e:(Op.call ⟨.value x,zFR,ts⟩).operands.toList=x::zFR.toList:=by simp[Op.operands,Call.operands]
   rw[e,xI,zPB];rw[xI] at hvs
   have:zM (zFR.toList.map zFD.val)=true:=by
    rw[<-hvs] at hpl;unfold zM at hpl ⊢;rw[xY] at hpl ⊢;exact fun a ha=>hpl a (by simp only[zP0];exact .inr (.inl ha))
   unfold zM at this ⊢;rw[xR,hpv,this];rfl
  rw[if_pos hpo]
  have he:execOp zFD.val o=(do let d <- resolve zFD.val ⟨.value x,zFR,ts⟩ o.type;invoke d.target d.args):=by
   unfold execOp;rw[hop]
  have hr:resolve zFD.val ⟨.value x,zFR,ts⟩ o.type=pure { target:=.fn (.func g) cs,args:=fs++zFR.map zFD.val }:=by
   unfold resolve Deferred.ofValue;simp only[hv]
  have:execOp zFD.val o=callFunc g vs.toArray:=by
   rw[he,hr];show invoke (.fn (.func g) cs) (fs++zFR.map zFD.val)=_;unfold invoke;simp only
   congr 1
   apply Array.toList_inj.1;rw[<-hvs,xI];simp
  rw[this,hs];show qCZ H v=_;unfold qCZ;rw[hd];rfl
 unfold target at h;split at h
 ·rename_i g' a c hfv;rw[hfv] at hx0;have hv:=yI hx0 rfl
  cases hc:(a.toList.isEmpty&&c.toList.isEmpty) with
  | false=>rw[hc] at h;cases h
  | true =>
    rw[hc] at h;cases h;rw[zOT] at hc;have e1:a.toList=[]:=by simpa using hc.1
    have e2:c.toList=[]:=by simpa using hc.2
    have e3:a=#[]:=by simpa using e1
    have e4:c=#[]:=by simpa using e2
    subst e3 e4;refine key _ _ hv ?_ (by rw[hv];rfl);have:=qKK ha (by simpa using hp);rw[xI];simpa using this
 ·rename_i g' first cap hfv
  cases h;rw[hfv] at hx0;obtain⟨a,b,rfl,p1,p2⟩:=qM4 hp;obtain⟨b,c,rfl,p3,p4⟩:=qM4 p2
  cases hv:zFD.val x with
  | func fn fs cs =>
    rw[hv] at hx0
    cases hx0 with
    | fn hf hc hfc hcc =>
      have q1:=qKK (vs:=fs.toList) ⟨by simpa using hf,fun i x v a b=>hfc i x v a (by simpa using b)⟩ p1;have q2:=qKK (vs:=cs.toList) ⟨by simpa using hc,fun i x v a b=>hcc i x v a (by simpa using b)⟩ p4;have q3:=qKK ha (by simpa using p3);refine key fs cs hv (by rw[q1,q2,xI];rw[<-q3]) ?_;rw[hv];rw[xY] at hp2;show (zAL (.func g)&&(jG (xQ 2) fs.toList&&jG (xQ 2) cs.toList))=true;rw[zOT,zOT,xY,xY];exact⟨rfl,fun y hy=>hp2 y (by rw[q1] at hy;simp[hy]),fun y hy=>hp2 y (by rw[q2] at hy;simp[hy])⟩
  | _=>rw[hv] at hx0;cases hx0
 ·cases h
theorem qR0 {p:Nat->Bool}{env:List PV}:∀ {ph:PHp} {k:Nat},clean p env ph=true->(p k&&(qA k ph).isSome)=true->zY k env=true
 | [],k,_,h=>by simp[qA] at h
 | (j,o)::ph,k,h,hk=>by
   have h:((!p j||zY j env)&&clean p env ph)=true:=h;rw[zOT] at h hk;obtain⟨hk1,hk2⟩:=hk;have hk2:(cond (k==j) (some o) (qA k ph)).isSome=true:=hk2
   cases e:k==j with
   | true =>
     have:k=j:=by simpa using e
     subst this;have:=h.1;rw[hk1] at this;simpa using this
   | false =>
     rw[e] at hk2;exact qR0 h.2 (by rw[hk1];exact hk2)
theorem KR.act {p:Nat->Bool}{M:Nat->Option (Nat×PO)}{m:Nat->Nat}{ph:PHp}(h:KR p M (own m ph)):KR (fun k=>p k&&(qA k ph).isSome) M (own m ph):=fun k b ob hk=>by
 rcases h k b ob hk with q | q | q
 ·exact .inl q
 ·exact .inr (.inl q)
 ·obtain⟨hl,_⟩:=vX hk;exact .inr (.inr (by show (p k&&(qA k ph).isSome)=true;rw[q,hl];rfl))
theorem q6D (hF:aY F){jj:FuncId}{R:PV->PHp->Prop}(hR:Rel P f H w)(hG:gG G f)(zFL:qD P f zFD a.tmps.toList)
 (hok:o.op.operands.toList.all (jB (qX f))=true) (hp:Hp P Z H (own m ph)) (hb:H.base<=H.size) (he:VRL P Z H (own m ph) env zFD) (hx:bI P tab inl (qH nm o.dst) o env ph=.call g as ph') (hc:qD2 P G (qV3 nm jj) g as ph' R) (hcl:∀ v ph2,R v ph2->clean (qV3 nm jj).p env ph2=true)
 (hK:∀ (Z':Nat->Prop) (m':Nat->Nat) (v:PV) (ph2:PHp) (u:Value) (H':IH) (f':Inj) (v':Value) (w':World),R v ph2->Hp P Z' H' (own m' ph2)->VR P Z' H' (own m' ph2) v u->VRL P Z' H' (own m' ph2) env zFD->Step Z H (own m ph) Z' H' (own m' ph2)->KR (inP nm) (own m ph) (own m' ph2) ->
   Rel P f' H' w'->Grow f H w f' H' w'->zFE P f' u v'->K (a.put o.dst v') w'):o.wpIn F 0 P a w K Qx:=by
 unfold bI at hx;split at hx
 ·rename_i x zFR ts hop;obtain⟨g1,as1,h1,h2⟩:=nP hx (fun h=>by cases h) (fun _ _ _ h=>by cases h);unfold mO at h2
  cases hi:inl g1 with
  | false =>
    rw[hi] at h2;exfalso;have h2:aF P tab g1 as1 ph=.call g as ph':=h2;unfold aF at h2;split at h2
    ·split at h2 <;> cases h2
    ·cases h2
  | true =>
    rw[hi] at h2;have h2:PE.call g1 as1 ph=.call g as ph':=h2;cases h2
    rcases hc with ⟨hxt,vs,xv,x1,x2,x3,x4,x5⟩ | ⟨hent,hc⟩
    ·refine wG (run:=jS) (nat:=fun _=>none) (G:=G) (Q:=fun r=>r=(xv,H)) hF (qFE qXM) rV hR hG zFL hok ?_ ?_
     ·unfold tO;rw[q77 hop he h1 hxt x1 x2 x3 x4];rfl
     ·rintro r v' w' f' rfl k1 k2 k3;exact hK Z m _ _ xv H f' v' w' x5 hp (mG xv) he (.refl _ _ _) (.refl _ _) k1 k2 k3
    obtain⟨zFQ,q1,q2⟩:=nZ (o:=o) (ts:=ts) he h1 hent;have hci:=hc Z H m zFQ hp hb q2;refine wG (run:=jS) (nat:=mJ g zFQ H _) (G:=G) hF (qFE (qXW hci)) rV hR hG zFL hok (Q:=fun r=>∃ Z' m' pv ph',Hp P Z' r.2 (own m' ph')∧VR P Z' r.2 (own m' ph') pv r.1∧Step Z H (own m ph) Z' r.2 (own m' ph')∧KR (qV3 nm jj).p (own m ph) (own m' ph')∧R pv ph') ?_ ?_
    ·have:iop P o zFD H=some (.enter g zFQ H):=by
      unfold iop;rw[hop];exact q1
     unfold tO;rw[this];show (yH jS (mJ g zFQ H _) g zFQ H).holds _;rw[qOB];intro r hr;exact hr
    ·rintro⟨u,H'⟩ v' w' f' ⟨Z',m',pv,ph2,b1,b2,b3,b4,b5⟩ k1 k2 k3
     exact hK Z' m' pv ph2 u H' f' v' w' b5 b1 b2 (he.mono b3.zle b3.size (hp.zG7 b3) (KR.act b4) fun j hj=>qR0 (hcl _ _ b5) hj) b3 (b4.up fun k h=>by
      have h:(inB _ k&&nm.p k)=true:=h;rw[zOT] at h
      exact h.2) k1 k2 k3
 ·unfold peO at hx;split at hx <;> cases hx
end Go.Idl
namespace Go.Idl
variable [Gc]
variable {P:Program}{G:Nat->Bool}{nat:xB}{tab:u6}{inl:FuncId->Bool}{nm:Nm}{rd:Bool}{good:FuncId->Bool}
variable {env:List PV}{id k n:Nat}{ob:PO}{ph q:PHp}{y:Code}
structure zGA (P:Program) (good:FuncId->Bool) (nat:xB) (G:Nat->Bool) (tab:u6):Prop where
 s:Setup P good nat G
 t:qSL P nat tab
abbrev PQ:=zGH->List PV->PHp->Prop
def Runs (P:Program)(G:Nat->Bool)(rd:Bool)(nm:Nm)(c:Code)(env:List PV)(ph:PHp)(Q:PQ):Prop :=
 ∀ (Z:Nat->Prop) (H:IH) (m:Nat->Nat) (zFD:Env),Hp P Z H (own m ph)->H.base<=H.size->VRL P Z H (own m ph) env zFD ->
  Holds P G rd c zFD H fun o=>∃ Z' m' env' ph',Hp P Z' o.H (own m' ph')∧VRL P Z' o.H (own m' ph') env' o.env∧Step Z H (own m ph) Z' o.H (own m' ph')∧KR (inP nm) (own m ph) (own m' ph')∧Q o.e env' ph'
theorem Runs.mono {c:Code}{env:List PV}{ph:PHp}{Q Q':PQ}(h:Runs P G rd nm c env ph Q)(hq:∀ e env ph,Q e env ph->Q' e env ph):Runs P G rd nm c env ph Q' :=
 fun Z H m zFD hp hb he=>(h Z H m zFD hp hb he).mono fun o ⟨Z',m',env',ph',a,b,c,d,e⟩=>⟨Z',m',env',ph',a,b,c,d,hq _ _ _ e⟩
inductive WkP:List PV->List PV->Prop
 | nil:WkP [] []
 | same {x:PV} {l m:List PV} (h:WkP l m):WkP (x::l) (x::m)
 | any {x:PV} {l m:List PV} (h:WkP l m):WkP (x::l) (.unk::m)
theorem WkP.refl:∀ (l:List PV),WkP l l
 | []=>.nil
 | _::l=>.same (WkP.refl l)
theorem WkP.rel {Z:Nat->Prop}{H:IH}{M:Nat->Option (Nat×PO)}{l m:List PV}(h:WkP l m):∀ {vs:List Value},VRL P Z H M l vs->VRL P Z H M m vs:=by
 induction h with
 | nil=>intro vs hx;exact hx
 | same _ ih=>intro vs hx;obtain⟨v,vs',rfl,h1,h2⟩:=hx.zFF;exact .cons h1 (ih h2)
 | any _ ih=>intro vs hx;obtain⟨v,vs',rfl,h1,h2⟩:=hx.zFF;exact .cons .unk (ih h2)
def oF (p q:PHp):Prop:=∀ k ob,qA k p=some ob->qA k q=some ob
theorem oF.refl (p:PHp):oF p p:=fun _ _ h=>h
theorem oF.nil (p:PHp):oF [] p:=fun _ _ h=>by cases h
theorem oF.skip {p:PHp}(h:oF p q)(hk:qA k p=none):oF p ((k,ob)::q):=fun j o hj=>by
 show cond (j==k) (some ob) (qA j q)=some o;by_cases e:j=k
 ·subst e;rw[hk] at hj;cases hj
 ·have:(j==k)=false:=by simpa using e
  rw[this];exact h j o hj
theorem oF.cons {p:PHp}(h:oF p q):oF ((k,ob)::p) ((k,ob)::q):=fun j o hj=>by
 show cond (j==k) (some ob) (qA j q)=some o;have hj:cond (j==k) (some ob) (qA j p)=some o:=hj
 cases e:(j==k) with
 | true=>rw[e] at hj;exact hj
 | false=>rw[e] at hj;exact h j o hj
theorem Runs.pre {c:Code}{zFI:List PV}{ph1:PHp}{Q:PQ}(hw:WkP env zFI)(hs:oF ph1 ph)(h:Runs P G rd nm c zFI ph1 Q):Runs P G rd nm c env ph Q:=by
 intro Z H m zFD hp hb he;have hf:=Fz.drop hp hs;refine (h Z H m zFD hf.hp hb (hw.rel (hf.vrl he))).mono ?_;rintro o ⟨Z',m',env',ph',a,b,c,d,e⟩;exact⟨Z',m',env',ph',a,b,hf.step.trans c,(hf.kr _).trans d,e⟩
def SQ (P:Program)(G:Nat->Bool)(rd:Bool)(nm:Nm)(y:Code)(Q:PQ):PQ:=fun e env ph=>match e with
 | .normal=>Runs P G rd nm y env ph Q
 | e=>Q e env ph
theorem SQ.go {Q:PQ}(h:Runs P G rd nm y env ph Q):SQ P G rd nm y Q .normal env ph:=h
theorem SQ.ex {Q:PQ}(h:Q (.exit id) env ph):SQ P G rd nm y Q (.exit id) env ph:=h
theorem Runs.seq {x:Code}{Q:PQ}(h:Runs P G rd nm x env ph (SQ P G rd nm y Q)):Runs P G rd nm (.seq x y) env ph Q:=by
 intro Z H m zFD hp hb he;refine .zLC (h Z H m zFD hp hb he) ?_ ?_
 ·rintro o ⟨Z',m',env',ph',a,b,c,d,e⟩ hn;rw[hn] at e;refine (e Z' o.H m' o.env a (by rw[c.base];exact zPF hb c.size) b).mono ?_;rintro o2 ⟨Z2,m2,zFT,ph2,a2,b2,c2,d2,e2⟩;exact⟨Z2,m2,zFT,ph2,a2,b2,c.trans c2,d.trans d2,e2⟩
 ·rintro o ⟨Z',m',env',ph',a,b,c,d,e⟩ hn;refine⟨Z',m',env',ph',a,b,c,d,?_⟩
  cases ho:o.e with
  | normal=>exact absurd ho hn
  | exit id=>rw[ho] at e;exact e
  | goto l=>rw[ho] at e;exact e
  | ret=>rw[ho] at e;exact e
theorem Runs.cond {v:Operand}{x y:Code}{env:List PV}{ph:PHp}{Q:PQ}{t:Bool}(hok:jB G v=true)(hv:qJ env v=fvv (.bool t))(hx:t=true->Runs P G rd nm x env ph Q)(hy:t=false->Runs P G rd nm y env ph Q):Runs P G rd nm (.cond v x y) env ph Q:=by
 intro Z H m zFD hp hb he;have hr:=qK he v;rw[hv] at hr;exact .cond hok (yI hr rfl) (fun ht=>hx ht Z H m zFD hp hb he) (fun ht=>hy ht Z H m zFD hp hb he)
theorem Runs.skip {env:List PV}{ph:PHp}{Q:PQ}(h:Q .normal env ph):Runs P G rd nm .skip env ph Q :=
 fun Z H m zFD hp hb he=>.skip ⟨Z,m,env,ph,hp,he,.refl _ _ _,.refl _ _,h⟩
theorem Runs.label {l:Nat}{env:List PV}{ph:PHp}{Q:PQ}(h:Q .normal env ph):Runs P G rd nm (.label l) env ph Q :=
 fun Z H m zFD hp hb he=>.label ⟨Z,m,env,ph,hp,he,.refl _ _ _,.refl _ _,h⟩
theorem Runs.ret {env:List PV}{ph:PHp}{Q:PQ}(h:Q .ret env ph):Runs P G rd nm .ret env ph Q :=
 fun Z H m zFD hp hb he=>.ret ⟨Z,m,env,ph,hp,he,.refl _ _ _,.refl _ _,h⟩
theorem Runs.exit {id:Nat}{env:List PV}{ph:PHp}{Q:PQ}(h:Q (.exit id) env ph):Runs P G rd nm (.exit id) env ph Q :=
 fun Z H m zFD hp hb he=>.exit ⟨Z,m,env,ph,hp,he,.refl _ _ _,.refl _ _,h⟩
def BQ (id:Nat)(Q:PQ):PQ:=fun e env ph=>match e with
 | .exit i=>if i=id then Q .normal env ph else Q (.exit i) env ph
 | e=>Q e env ph
theorem BQ.go {Q:PQ}(h:Q .normal env ph):BQ id Q .normal env ph:=h
theorem BQ.ex {i:Nat}{Q:PQ}(hne:i≠id)(h:Q (.exit i) env ph):BQ id Q (.exit i) env ph:=by unfold BQ;simp only[if_neg hne];exact h
theorem Runs.block {id:Nat}{x:Code}{env:List PV}{ph:PHp}{Q:PQ}(h:Runs P G rd nm x env ph (BQ id Q)):Runs P G rd nm (.block id x) env ph Q:=by
 intro Z H m zFD hp hb he;refine .block ((h Z H m zFD hp hb he).mono ?_);rintro o ⟨Z',m',env',ph',a,b,c,d,e⟩;unfold qJ8;unfold BQ at e
 cases ho:o.e with
 | normal=>rw[ho] at e;simp only;exact⟨Z',m',env',ph',a,b,c,d,by rw[ho];exact e⟩
 | goto l=>rw[ho] at e;simp only;exact⟨Z',m',env',ph',a,b,c,d,by rw[ho];exact e⟩
 | ret=>rw[ho] at e;simp only;exact⟨Z',m',env',ph',a,b,c,d,by rw[ho];exact e⟩
 | exit i =>
   rw[ho] at e;simp only at e ⊢;by_cases hi:i=id
   ·rw[if_pos hi] at e ⊢;exact⟨Z',m',env',ph',a,b,c,d,e⟩
   ·rw[if_neg hi] at e ⊢;exact⟨Z',m',env',ph',a,b,c,d,by rw[ho];exact e⟩
def jZ {σ ρ:Type}:Nat->(σ->Option (σ⊕ρ))->σ->Option ρ
 | 0,_,_=>none
 | n+1,f,s=>match f s with
   | some (.inl s')=>jZ n f s'
   | some (.inr r)=>some r
   | none=>none
theorem qFI {σ ρ:Type}{f:σ->Option (σ⊕ρ)}:∀ {n:Nat} {s:σ} {r:ρ},jZ n f s=some r->jZ (n+1) f s=some r
 | 0,_,_,h=>by cases h
 | n+1,s,r,h=>by
   unfold jZ at h ⊢
   cases hf:f s with
   | none=>rw[hf] at h;cases h
   | some x =>
     rw[hf] at h
     cases x with
     | inl s'=>exact qFI h
     | inr r=>exact h
theorem qPK {σ ρ:Type}{f:σ->Option (σ⊕ρ)}{s:σ}{r:ρ}(h:jZ n f s=some r)(hk:n<=k):jZ k f s=some r:=by
 induction hk with
 | refl=>exact h
 | step _ ih=>exact qFI ih
open Classical in
noncomputable def qFV {σ ρ:Type}(f:σ->Option (σ⊕ρ))(s:σ):Option ρ:=if h:∃ r n,jZ n f s=some r then some (Classical.choose h) else none
noncomputable def qVA {σ ρ:Type}(f:σ->Option (σ⊕ρ))(n:Nat):σ->(σ->Option ρ)->Option ρ :=
 Nat.rec (fun s k=>k s) (fun _ ih s k=>Option.rec none (fun x=>Sum.rec (fun s'=>ih s' k) (fun r=>some r) x) (f s)) n
noncomputable def zO {σ ρ:Type}(f:σ->Option (σ⊕ρ))(s:σ):Option ρ:=qVA f 1000000 s fun s=>qFV f s
theorem qZ2 {σ ρ:Type}{f:σ->Option (σ⊕ρ)}{s:σ}{r:ρ}(h:jZ n f s=some r):qFV f s=some r:=by
 have he:∃ r n,jZ n f s=some r:=⟨r,n,h⟩
 unfold qFV;rw[dif_pos he];obtain⟨k,hk⟩:=Classical.choose_spec he;have h1:=qPK h (Nat.le_max_left n k);have h2:=qPK hk (Nat.le_max_right n k);rw[h1] at h2;exact h2.symm
theorem qX6 {σ ρ:Type}{f:σ->Option (σ⊕ρ)}{s:σ}{r:ρ}(h:qFV f s=some r):∃ n,jZ n f s=some r:=by
 unfold qFV at h;split at h
 ·rename_i he;cases h;exact Classical.choose_spec he
 ·cases h
theorem qQJ {σ ρ:Type}{f:σ->Option (σ⊕ρ)}{r:ρ}:∀ (k:Nat) {n:Nat} {s:σ},jZ n f s=some r->qVA f k s (fun s=>qFV f s)=some r
 | 0,_,_,h=>qZ2 h
 | _+1,0,_,h=>by cases h
 | k+1,n+1,s,h=>by
   unfold jZ at h;show Option.rec none (fun x=>Sum.rec (fun s'=>qVA f k s' fun s=>qFV f s) (fun r=>some r) x) (f s)=some r
   cases hf:f s with
   | none=>rw[hf] at h;cases h
   | some x =>
     rw[hf] at h
     cases x with
     | inl s'=>exact qQJ k h
     | inr r=>exact h
theorem qKY {σ ρ:Type}{f:σ->Option (σ⊕ρ)}{r:ρ}:∀ (k:Nat) {s:σ},qVA f k s (fun s=>qFV f s)=some r->∃ n,jZ n f s=some r
 | 0,_,h=>qX6 h
 | k+1,s,h=>by
   have h:Option.rec none (fun x=>Sum.rec (fun s'=>qVA f k s' fun s=>qFV f s) (fun r=>some r) x) (f s)=some r:=h
   cases hf:f s with
   | none=>rw[hf] at h;cases h
   | some x =>
     rw[hf] at h
     cases x with
     | inl s'=>obtain⟨n,hn⟩:=qKY k h;exact⟨n+1,by unfold jZ;rw[hf];exact hn⟩
     | inr r'=>exact⟨1,by unfold jZ;rw[hf];exact h⟩
theorem qGH {σ ρ:Type}{f:σ->Option (σ⊕ρ)}{s:σ}{r:ρ}(h:jZ n f s=some r):zO f s=some r:=qQJ _ h
theorem gJ {σ ρ:Type}{f:σ->Option (σ⊕ρ)}{s:σ}{r:ρ}(h:zO f s=some r):∃ n,jZ n f s=some r:=qKY _ h
theorem wD {σ ρ:Type}(f:σ->Option (σ⊕ρ))(s:σ):zO f s=(match f s with
 | some (.inl s')=>zO f s'
 | some (.inr r)=>some r
 | none=>none):=by
 cases hf:f s with
 | none =>
   cases hl:zO f s with
   | none=>rfl
   | some r =>
     obtain⟨n,hn⟩:=gJ hl
     cases n with
     | zero=>cases hn
     | succ n=>unfold jZ at hn;rw[hf] at hn;cases hn
 | some x =>
   cases x with
   | inr r=>exact qGH (n:=1) (by unfold jZ;rw[hf])
   | inl s' =>
     simp only
     cases hl:zO f s' with
     | some r =>
       obtain⟨n,hn⟩:=gJ hl;exact qGH (n:=n+1) (by unfold jZ;rw[hf];exact hn)
     | none =>
       cases hl2:zO f s with
       | none=>rfl
       | some r =>
         obtain⟨n,hn⟩:=gJ hl2
         cases n with
         | zero=>cases hn
         | succ n=>unfold jZ at hn;rw[hf] at hn;rw[qGH hn] at hl;cases hl
def RQ {σ ρ:Type}(E:σ->List PV)(Ph:σ->PHp)(id:Nat)(r:ρ)(Q:PQ)(x:σ⊕ρ):PQ:=fun e env ph=>match x with
 | .inl s'=>e=.normal∧WkP env (E s')∧oF (Ph s') ph
 | .inr r'=>r'=r->e≠.normal∧BQ id Q e env ph
theorem Runs.loop {σ ρ:Type}(E:σ->List PV)(Ph:σ->PHp){step:σ->Option (σ⊕ρ)}{s0:σ}{r:ρ}(hr:zO step s0=some r){id:Nat}{x:Code}{env:List PV}{ph:PHp}{Q:PQ}(hw:WkP env (E s0))(hs:oF (Ph s0) ph)
 (hx:∀ s y,step s=some y->Runs P G rd nm x (E s) (Ph s) (RQ E Ph id r Q y)):Runs P G rd nm (.block id (.loop x)) env ph Q:=by
 obtain⟨n,hn⟩:=gJ hr;refine .pre hw hs (.block ?_);intro Z H m zFD hp hb he;refine .loop (fun n zGN H1=>∃ s Z1 m1,jZ n step s=some r∧Hp P Z1 H1 (own m1 (Ph s))∧VRL P Z1 H1 (own m1 (Ph s)) (E s) zGN∧Step Z H (own m (Ph s0)) Z1 H1 (own m1 (Ph s))∧KR (inP nm) (own m (Ph s0)) (own m1 (Ph s))) ?_ (n:=n) ⟨s0,Z,m,hn,hp,he,.refl _ _ _,.refl _ _⟩;rintro n1 zGN H1 ⟨s,Z1,m1,q1,q2,q3,q4,q5⟩
 cases n1 with
 | zero=>cases q1
 | succ n1 =>
   unfold jZ at q1
   cases hf:step s with
   | none=>rw[hf] at q1;cases q1
   | some y =>
     rw[hf] at q1;refine (hx s y hf Z1 H1 m1 zGN q2 (by rw[q4.base];exact zPF hb q4.size) q3).mono ?_;rintro o ⟨Z2,m2,zFT,ph2,a,b,c,d,e⟩
     cases y with
     | inl s' =>
       obtain⟨e1,e2,e3⟩:=e;rw[e1];simp only;have hfz:=Fz.drop a e3;exact⟨n1,zPR _,s',Z2,m2,q1,hfz.hp,e2.rel (hfz.vrl b),(q4.trans c).trans hfz.step,(q5.trans d).trans (hfz.kr _)⟩
     | inr r' =>
       simp only[zO1] at q1;subst q1;obtain⟨e1,e2⟩:=e rfl
       cases ho:o.e with
       | normal=>exact absurd ho e1
       | exit i=>simp only;exact⟨Z2,m2,zFT,ph2,a,b,q4.trans c,q5.trans d,by rw[ho] at e2;exact e2⟩
       | goto l=>simp only;exact⟨Z2,m2,zFT,ph2,a,b,q4.trans c,q5.trans d,by rw[ho] at e2;exact e2⟩
       | ret=>simp only;exact⟨Z2,m2,zFT,ph2,a,b,q4.trans c,q5.trans d,by rw[ho] at e2;exact e2⟩
end Go.Idl
namespace Go.Idl
variable [Gc]
variable {P:Program}{G:Nat->Bool}{nat:xB}{tab:u6}{nm:Nm}{good:FuncId->Bool}{Z:Nat->Prop}{H:IH}{M:Nat->Option (Nat×PO)}
variable {env xs:List PV}{g:FuncId}{zFD:Env}{m:Nat->Nat}{ph:PHp}{v:Value}{vs:List Value}{x y:PV}
theorem FR.inter {Z0:Nat->Prop}{x:FV}(h0:FR Z0 H x v):∀ {S:(Nat->Prop)->Prop},(∀ Z,S Z->FR Z H x v)->FR (fun b=>∀ Z,S Z->Z b) H x v:=by
 induction h0 with
 | v hp h1=>exact fun _=>.v hp h1
 | nil h0 hs=>exact fun _=>.nil h0 hs
 | @l el n cs b o sp c vs hz hb hn hs hl hc ih =>
   intro S hS;by_cases he:cs=[]∧n=0
   ·obtain⟨rfl,rfl⟩:=he;exact .nil (fun h=>by cases h) (fun x h=>by cases h;exact hs)
   ·refine .l (fun Z hZ=>?_) hb hn hs hl fun i x v h1 h2=>ih i x v h1 h2 fun Z hZ=>?_
    ·cases hS Z hZ with
     | nil=>exact absurd ⟨rfl,rfl⟩ he
     | l hz=>exact hz
    ·cases hS Z hZ with
     | nil=>simp at h1
     | l _ _ _ _ hl' hc' =>
       rw[hl] at hl';cases hl';exact hc' i x v h1 h2
theorem VR.inter {Z0:Nat->Prop}{x:PV}{v:Value}(h0:VR P Z0 H (fun _=>none) x v):∀ {S:(Nat->Prop)->Prop},(∀ Z,S Z->VR P Z H (fun _=>none) x v)->VR P (fun b=>∀ Z,S Z->Z b) H (fun _=>none) x v:=by
 induction h0 with
 | f h=>exact fun hS=>.f (h.inter fun Z hZ=>by cases hS Z hZ with | f h=>exact h)
 | agg hl hc ih=>exact fun hS=>.agg hl fun i x v h1 h2=>ih i x v h1 h2 fun Z hZ=>by cases hS Z hZ with | agg _ hc'=>exact hc' i x v h1 h2
 | tup hl hc ih=>exact fun hS=>.tup hl fun i x v h1 h2=>ih i x v h1 h2 fun Z hZ=>by cases hS Z hZ with | tup _ hc'=>exact hc' i x v h1 h2
 | own h1 h=>exact fun _=>.own h1 fun b ob hM=>by cases hM
 | ref h1 h=>exact fun _=>.ref h1 fun b ob hM=>by cases hM
 | mp h1 h=>exact fun _=>.mp h1 fun b ob hM=>by cases hM
 | asl h1 h=>exact fun _=>.asl h1 fun b ob hM=>by cases hM
 | @lp cs off b o vs hz hb hl hc =>
   intro S hS
   have key:∀ Z,S Z->∃ b' o' vs',b'=b∧o'=o∧Z b'∧H.loads b' o' cs.length=some vs'∧∀ (i:Nat) x v,cs[i]?=some x->vs'[i]?=some v->FR Z H x v:=fun Z hZ=>by
    generalize hq:(Value.pointer (some ⟨b,o+off,none⟩))=q at hS;have h:=hS Z hZ
    cases h with
    | lp hz' hb' hl' hc' =>
      simp only[Value.pointer.injEq,zO1,Addr.mk.injEq,and_true] at hq;obtain⟨rfl,hq⟩:=hq;exact⟨_,_,_,rfl,by omega,hz',hl',hc'⟩
   refine .lp (fun Z hZ=>?_) hb hl fun i x v h1 h2=>(hc i x v h1 h2).inter fun Z hZ=>?_
   ·obtain⟨b',o',vs',rfl,rfl,q,_⟩:=key Z hZ;exact q
   ·obtain⟨b',o',vs',rfl,rfl,_,q2,q3⟩:=key Z hZ;rw[hl] at q2;cases q2;exact q3 i x v h1 h2
 | fn hf hc hfc hcc i1 i2=>exact fun hS=>.fn hf hc (fun i x v h1 h2=>i1 i x v h1 h2 fun Z hZ=>by cases hS Z hZ with | fn _ _ q _=>exact q i x v h1 h2) (fun i x v h1 h2=>i2 i x v h1 h2 fun Z hZ=>by cases hS Z hZ with | fn _ _ _ q=>exact q i x v h1 h2)
 | yl=>exact fun _=>.yl
 | bq=>exact fun _=>.bq
 | unk=>exact fun _=>.unk
def q7A (P:Program)(H:IH)(xs:List PV)(vs:List Value):Nat->Prop:=fun b=>∀ Z,VRL P Z H (fun _=>none) xs vs->Z b
theorem q6R (h:VRL P Z H (fun _=>none) xs vs):VRL P (q7A P H xs vs) H (fun _=>none) xs vs :=
 ⟨h.len,fun i x v h1 h2=>(h.val i x v h1 h2).inter (S:=fun Z=>VRL P Z H (fun _=>none) xs vs) fun Z hZ=>hZ.val i x v h1 h2⟩
theorem qVE (h:VRL P Z H (fun _=>none) xs vs){b:Nat}(hb:q7A P H xs vs b):Z b:=hb Z h
noncomputable def q1E (P:Program)(env:List PV)(ph:PHp):ResultVar->Option PV
 | .tmp t=>some ((zG env t).getD .unk)
 | .cell a t=>fZ P t ((zG env a).getD .unk) ph
noncomputable def qGV (P:Program)(env:List PV)(ph:PHp):List ResultVar->Option (List PV)
 | []=>some []
 | r::l=>match q1E P env ph r with
   | some v=>(match qGV P env ph l with
     | some vs=>some (v::vs)
     | none=>none)
   | none=>none
def qD4:List PV->PV
 | [v]=>v
 | vs=>.tup vs
noncomputable def wK (P:Program)(fn:Func)(env:List PV)(ph:PHp):Option PV:=(qGV P env ph fn.results.toList).map fun xs=>qD4 (rtL (rt1 P) fn.resultTypes.toList xs)
theorem qZ1 {r:ResultVar}(hp:Hp P Z H (own m ph))(he:VRL P Z H (own m ph) env zFD)(h:q1E P env ph r=some x):∃ v,q1A P zFD H r=some v∧VR P Z H (own m ph) x v:=by
 cases r with
 | tmp t=>cases h;exact⟨_,rfl,qK he (.tmp t)⟩
 | cell a t=>exact qOZ hp (qK he (.tmp a)) h
theorem qRK {m:Nat->Nat}{ph:PHp}{env:List PV}{zFD:Env}(hp:Hp P Z H (own m ph))(he:VRL P Z H (own m ph) env zFD):∀ {l:List ResultVar} {xs:List PV},qGV P env ph l=some xs->∃ vs,qMV P zFD H l=some vs∧VRL P Z H (own m ph) xs vs
 | [],xs,h=>by cases h;exact⟨[],rfl,.nil⟩
 | r::l,xs,h=>by
   unfold qGV at h;split at h
   ·rename_i x hx;split at h
    ·rename_i xs' hxs;cases h;obtain⟨v,h1,h2⟩:=qZ1 hp he hx;obtain⟨vs,h3,h4⟩:=qRK hp he hxs;exact⟨v::vs,by unfold qMV;rw[h1,h3],.cons h2 h4⟩
    ·cases h
   ·cases h
theorem mY {fn:Func}(hp:Hp P Z H (own m ph))(he:VRL P Z H (own m ph) env zFD)(h:wK P fn env ph=some x):∃ v,vB P fn zFD H=some v∧VR P Z H (own m ph) x v:=by
 unfold wK at h;obtain⟨xs,h1,rfl⟩:=zO6.1 h;obtain⟨vs,h2,h3⟩:=qRK hp he h1
 replace h3:=qE8 (f:=rt1 P) (ts:=fn.resultTypes.toList) (fun t x v h=>qFH h) h3
 revert h3
 generalize rtL (rt1 P) fn.resultTypes.toList xs=xs;intro h3;refine⟨one vs,by unfold vB;rw[h2];rfl,?_⟩
 match xs,h3 with
 | [],h3=>rw[h3.zFJ];exact VRL.zHU (vs:=#[]) .nil
 | [x],h3 =>
   obtain⟨v,vs',rfl,a,b⟩:=h3.zFF;rw[b.zFJ];exact a
 | x::y::l,h3 =>
   obtain⟨v,vs',rfl,a,b⟩:=h3.zFF;obtain⟨v2,vs2,rfl,a2,b2⟩:=b.zFF;exact VRL.zHU (vs:=(v::v2::vs2).toArray) (by simpa using VRL.cons a (VRL.cons a2 b2))
noncomputable def fzR (P:Program)(ph:PHp):PV->Option PV
 | .tup xs=>(match fzA P xs ph with
   | some (ys,_)=>some (.tup ys)
   | none=>none)
 | x=>(match fzP P ph x with
   | some (y,_)=>some y
   | none=>none)
theorem zAV (hp:Hp P Z H (own m ph))(hx:VR P Z H (own m ph) x v)(h:fzR P ph x=some y):∃ Z' ph',Fz P Z H m ph Z' ph'∧VR P Z' H (fun _=>none) y v:=by
 unfold fzR at h;split at h
 ·split at h
  ·rename_i ys ph' hf;cases h;obtain⟨vs,rfl,hr⟩:=hx.zJU;obtain⟨Z',h1,h2⟩:=qIP hp hr hf;exact⟨Z',ph',h1,h2.zHU⟩
  ·cases h
 ·split at h
  ·rename_i y' ph' hf;cases h;obtain⟨Z',h1,h2⟩:=qIN hp hx hf;exact⟨Z',ph',h1,h2⟩
  ·cases h
structure PEn (α:Type) where
 p:α->PV
 inj:∀ x y,p x=p y->x=y
 uniq:∀ (P:Program) (Z Z':Nat->Prop) (H:IH) (x y:α) (v:Value),VR P Z H (fun _=>none) (p x) v->VR P Z' H (fun _=>none) (p y) v->x=y
structure AEn (α:Type) where
 p:α->List PV
 inj:∀ x y,p x=p y->x=y
 uniq:∀ (P:Program) (Z Z':Nat->Prop) (H:IH) (x y:α) (vs:List Value),VRL P Z H (fun _=>none) (p x) vs->VRL P Z' H (fun _=>none) (p y) vs->x=y
def AEn.nil:AEn Unit:=⟨fun _=>[],fun _ _ _=>rfl,fun _ _ _ _ _ _ _ _ _=>rfl⟩
def AEn.cons {α β:Type}(a:PEn α)(b:AEn β):AEn (α×β):=⟨fun x=>a.p x.1::b.p x.2,fun x y h=>by
 simp only[zPK] at h
 exact Prod.ext (a.inj _ _ h.1) (b.inj _ _ h.2),fun P Z Z' H x y vs h1 h2=>by
 obtain⟨v,vs',rfl,a1,b1⟩:=h1.zFF;obtain⟨v',vs2,e,a2,b2⟩:=h2.zFF;simp only[zPK] at e;obtain⟨rfl,rfl⟩:=e
 exact Prod.ext (a.uniq P Z Z' H _ _ _ a1 a2) (b.uniq P Z Z' H _ _ _ b1 b2)⟩
open Classical in
noncomputable def ofF {α β:Type}(a:AEn α)(F:α->Option β)(r:β->PV)(xs:List PV):Option PV :=
 if h:∃ x,xs=a.p x then (F (Classical.choose h)).map r else none
theorem qQI {α β:Type}{a:AEn α}{F:α->Option β}{r:β->PV}(x:α):ofF a F r (a.p x)=(F x).map r:=by
 have h:∃ y,a.p x=a.p y:=⟨x,rfl⟩
 unfold ofF;rw[dif_pos h];rw[<-a.inj _ _ (Classical.choose_spec h)]
theorem qU6 {α β:Type}{a:AEn α}{F:α->Option β}{r:β->PV}(h:ofF a F r xs=some y):∃ x z,xs=a.p x∧F x=some z∧y=r z:=by
 unfold ofF at h;split at h
 ·rename_i he;obtain⟨z,h1,h2⟩:=zO6.1 h;exact⟨_,z,Classical.choose_spec he,h1,h2.symm⟩
 ·cases h
def q5C (tab:u6)(g:FuncId)(F:List PV->Option PV):u6:=fun x xs=>cond (Nat.beq x g) (F xs) (tab x xs)
def zAS {α β:Type}(P:Program)(a:AEn α)(F:α->Option β)(x:α)(args:List Value)(H:IH):Prop:=(∃ Z:Nat->Prop,VRL P Z H (fun _=>none) (a.p x) args∧∀ b,Z b->b < H.size)∧H.base<=H.size∧GlH H∧∃ y,F x=some y
def q1T {α β:Type}(P:Program)(a:AEn α)(F:α->Option β)(r:β->PV)(x:α)(args:List Value)(H:IH)(v:Value)(H':IH):Prop:=Old H H'∧∃ y,F x=some y∧∃ Z':Nat->Prop,(∀ b,Z' b->b < H'.size)∧(∀ b,Z' b->b < H.size->q7A P H (a.p x) args b∨q9N b)∧VR P Z' H' (fun _=>none) (r y) v
def zEK {α β:Type}(P:Program)(G:Nat->Bool)(g:FuncId)(nm:Nm)(a:AEn α)(F:α->Option β)(r:β->PV):Prop :=
 ∃ fn c,P.funcs[g]?=some fn∧fn.body=some c∧∀ x y,F x=some y->∃ N,fn.ntmps=N∧Runs P G false nm c (a.p x++List.replicate (N - (a.p x).length) .unk) [] fun e env ph=>(e=.normal∨e=.ret)∧∃ r0,wK P fn env ph=some r0∧fzR P ph r0=some (r y)
theorem zGA.zG3 {α β:Type}(s:zGA P good nat G tab)(a:AEn α)(F:α->Option β)(r:β->PV)(hent:enters P g=true)(hfr:∀ y,q6Q (r y)=true)
 (h:∀ (x:α) (y:β) (args:List Value) (H:IH),F x=some y->(∃ Z:Nat->Prop,VRL P Z H (fun _=>none) (a.p x) args∧∀ b,Z b->b < H.size)->H.base<=H.size->GlH H->uU P G g args H fun q=>q1T P a F r x args H q.1 q.2) :
 zGA P good (zHC nat g (fun (x:α×List Value) args H=>x.2=args∧zAS P a F x.1 args H) (fun x H v H'=>q1T P a F r x.1 x.2 H v H')) G (q5C tab g (ofF a F r)):=by
 have uniq:∀ (x y:α×List Value) (args:List Value) (H:IH),(x.2=args∧zAS P a F x.1 args H)->(y.2=args∧zAS P a F y.1 args H)->x=y:=by
  rintro⟨x,as⟩ ⟨y,bs⟩ args H ⟨e1,⟨Z1,h1,_⟩,_⟩ ⟨e2,⟨Z2,h2,_⟩,_⟩;simp only at e1 e2 h1 h2;subst e1 e2;rw[a.uniq P Z1 Z2 H x y _ h1 h2]
 refine⟨s.s.zHC _ _ ?_,?_⟩
 ·rintro⟨x,as⟩ args H ⟨e1,⟨Z0,h0,hz0⟩,hb,hgl,y,hy⟩;simp only at e1 h0 hy;subst e1;exact h x y as H hy ⟨Z0,h0,hz0⟩ hb hgl
 ·intro g' zHG r' ht;unfold q5C at ht
  cases hg:Nat.beq g' g with
  | false =>
    rw[hg] at ht;obtain⟨t1,t2,k,t3,t4⟩:=s.t g' zHG r' ht;refine⟨t1,t2,k,?_,t4⟩;unfold zHC;rw[hg];exact t3
  | true =>
    rw[hg] at ht;have hg':g'=g:=zOU hg;subst hg';obtain⟨x,y,rfl,hF,rfl⟩:=qU6 ht;refine⟨hent,hfr y,_,by unfold zHC;rw[hg];rfl,?_⟩;intro Z H args hv hz hb hgl Q hQ
    have hpre:(fun (x:α×List Value) args H=>x.2=args∧zAS P a F x.1 args H) (x,args) args H:=⟨rfl,⟨Z,hv,hz⟩,hb,hgl.h hz,y,hF⟩
    rw[zBI uniq hpre];rintro⟨v,H'⟩ ⟨o1,y',hy',Z',o2,o3,o4⟩;simp only at hy' o4;rw[hF] at hy';cases hy';refine hQ v H' (fun b=>Z b∨Z' b) o1 (fun b h=>.inl h) ?_ ?_ ?_
    ·rintro b (h | h)
     ·exact zOY (hz b h) o1.size
     ·exact o2 b h
    ·rintro b (h | h) hlt
     ·exact h
     ·rcases o3 b h hlt with q | ⟨o,q⟩
      ·exact qVE hv q
      ·exact (hgl b o q).1
    ·exact o4.mono (p:=fun _=>false) (fun _ h=>.inr h) (zOV _) (fun _ _ _=>rfl) (.refl _ _) fun j hj=>by cases hj
theorem zGA.add {α β:Type}(s:zGA P good nat G tab){nm:Nm}(a:AEn α)(F:α->Option β)(r:β->PV)(hent:enters P g=true)(hfr:∀ y,q6Q (r y)=true)(h:zEK P G g nm a F r) :
 zGA P good (zHC nat g (fun (x:α×List Value) args H=>x.2=args∧zAS P a F x.1 args H) (fun x H v H'=>q1T P a F r x.1 x.2 H v H')) G (q5C tab g (ofF a F r)) :=
 s.zG3 a F r hent hfr fun x y as H hy ⟨Z0,h0,hz0⟩ hb hgl=>by
  obtain⟨fn,c,q1,q2,q3⟩:=h;obtain⟨N,hN,hrun⟩:=q3 x y hy;have hf:=(q6R h0).mono (p:=fun _=>false) (Z':=fun b=>q7A P H (a.p x) as b∨q9N b) (fun _ h=>.inl h) (zOV _) (fun _ _ _=>rfl) (.refl _ _) (fun j hj=>by cases hj)
  have zMV:∀ b,q7A P H (a.p x) as b∨q9N b->b < H.size:=fun b hb=>by
   rcases hb with hb | ⟨o,hb⟩
   ·exact hz0 b (qVE h0 hb)
   ·exact (hgl b o hb).1
  refine uU.of q1 q2 hN ?_
  have hp0:Hp P (fun b=>q7A P H (a.p x) as b∨q9N b) H (own (fun _=>0) []):=⟨zMV,fun k b ob hk=>(by cases hk),fun k k' b b' ob ob' hk=>(by cases hk),fun g o hg=>⟨.inr ⟨o,hg⟩,(hgl g o hg).2⟩⟩
  have e0:own (fun _=>0) []=fun _=>none:=rfl
  have hlen:=h0.len
  have zFL:VRL P (fun b=>q7A P H (a.p x) as b∨q9N b) H (own (fun _=>0) []) (a.p x++List.replicate (N - (a.p x).length) .unk) (as++List.replicate (N - as.length) undef):=by
   rw[hlen];refine VRL.append hf ⟨by simp,fun i z v h1 h2=>?_⟩;rw[zQ4] at h1;split at h1
   ·cases h1;exact .unk
   ·cases h1
  refine (hrun _ H _ _ hp0 hb zFL).mono ?_;rintro o ⟨Z',m',env',ph',a1,b1,c1,d1,he,r0,hr0,hfz⟩;refine⟨he,?_⟩;obtain⟨v,v1,v2⟩:=mY a1 b1 hr0;obtain⟨Z2,ph2,w1,w2⟩:=zAV a1 v2 hfz;have noO:∀ b,¬ dR (own (fun _=>0) []) b:=fun b ⟨k,ob,hk,_⟩=>by cases hk
  refine⟨v,v1,⟨c1.size,c1.base,fun b hb=>c1.keep b hb (noO b)⟩,y,hy,Z2,w1.hp.zlt,fun b hb hlt=>?_,w2⟩;rcases w1.zGF b hb with h | h
  ·rcases c1.zGF b h hlt with h | h
   ·exact h
   ·exact absurd h (noO b)
  ·exact absurd (c1.onew b h hlt) (noO b)
end Go.Idl
namespace Go.Idl
variable [Gc]
variable {P:Program}{G:Nat->Bool}{nat:xB}{tab:u6}{inl:FuncId->Bool}{nm:Nm}{good:FuncId->Bool}{Z:Nat->Prop}{H:IH}{M:Nat->Option (Nat×PO)}
variable {args:List PV}{c:Int}{ph':PHp}{v:Value}{w:Bool}{ws:List Value}{xs:List FV}
structure C1 (α:Type) where
 f:α->FV
 inj:∀ x y,f x=f y->x=y
 uniq:∀ (Z Z':Nat->Prop) (H:IH) (x y:α) (v:Value),FR Z H (f x) v->FR Z' H (f y) v->x=y
structure CN (α:Type) where
 f:α->List FV
 k:Nat
 len:∀ x,(f x).length=k
 inj:∀ x y,f x=f y->x=y
 uniq:∀ (Z Z':Nat->Prop) (H:IH) (x y:α) (vs:List Value),FRL Z H (f x) vs->FRL Z' H (f y) vs->x=y
theorem qL7 {x:Value}(h:FR Z H (.v x) v):v=x:=by cases h;rfl
def C1.plain {α:Type}(g:α->Value)(hi:∀ x y,g x=g y->x=y):C1 α:=⟨fun x=>.v (g x),fun x y h=>hi x y (by injection h),fun Z Z' H x y v a b=>hi x y ((qL7 a).symm.trans (qL7 b))⟩
def C1.int (k:IntKind):C1 Int:=.plain (fun z=>.int k z) fun x y h=>by injection h
def C1.bool:C1 Bool:=.plain (fun z=>.bool z) fun x y h=>by injection h
theorem FRL.zFF {x:FV}(h:FRL Z H (x::xs) ws):∃ v vs,ws=v::vs∧FR Z H x v∧FRL Z H xs vs:=by
 cases ws with
 | nil=>have:=h.len;simp at this
 | cons v vs=>exact⟨v,vs,rfl,h.val 0 x v rfl rfl,by have:=h.len;simpa using this,fun i y u h1 h2=>h.val (i+1) y u (by simpa using h1) (by simpa using h2)⟩
theorem FRL.split {ys:List FV}(h:FRL Z H (xs++ys) ws):FRL Z H xs (ws.take xs.length)∧FRL Z H ys (ws.drop xs.length):=by
 have hl:=h.len;rw[zPC] at hl;refine⟨⟨by simp;omega,fun i x v h1 h2=>?_⟩,⟨by simp;omega,fun i x v h1 h2=>?_⟩⟩
 ·have hi:=(zOZ.1 h1).1;rw[zQL,if_pos hi] at h2;exact h.val i x v (by rw[zQC hi];exact h1) h2
 ·rw[zQQ] at h2;exact h.val (xs.length+i) x v (by rw[zQJ (by omega)];simpa using h1) h2
theorem qRC {α:Type}(c:C1 α){Z':Nat->Prop}:∀ (xs ys:List α) (vs:List Value),FRL Z H (xs.map c.f) vs->FRL Z' H (ys.map c.f) vs->xs=ys
 | [],[],_,_,_=>rfl
 | [],y::ys,vs,a,b=>by have h1:=a.len;have h2:=b.len;simp at h1 h2;omega
 | x::xs,[],vs,a,b=>by have h1:=a.len;have h2:=b.len;simp at h1 h2;omega
 | x::xs,y::ys,vs,a,b=>by
   obtain⟨v,vs',rfl,a1,a2⟩:=a.zFF;obtain⟨v',vs2,e,b1,b2⟩:=b.zFF;simp only[zPK] at e;obtain⟨rfl,rfl⟩:=e;rw[c.uniq _ _ H x y _ a1 b1,qRC c xs ys _ a2 b2]
theorem map_inj {α:Type}(c:C1 α):∀ (xs ys:List α),xs.map c.f=ys.map c.f->xs=ys
 | [],[],_=>rfl
 | [],y::ys,h=>by cases h
 | x::xs,[],h=>by cases h
 | x::xs,y::ys,h=>by
   simp only[zPB,zPK] at h;rw[c.inj x y h.1,map_inj c xs ys h.2]
theorem pW {el n n':Nat}{cs cs':List FV}{Z':Nat->Prop}(a:FR Z H (.l el n cs) v)(b:FR Z' H (.l el n' cs') v):n=n'∧∃ vs vs',FRL Z H cs vs∧FRL Z' H cs' vs'∧(cs.length=cs'.length->vs=vs'):=by
 cases a with
 | nil h0 hs =>
   cases b with
   | nil=>exact⟨rfl,[],[],⟨rfl,fun i x v h=>by simp at h⟩,⟨rfl,fun i x v h=>by simp at h⟩,fun _=>rfl⟩
   | l hz hb hn hs' hl hc=>exact⟨rfl,[],_,⟨rfl,fun i x v h=>by simp at h⟩,⟨(kJ hl).symm,hc⟩,fun e=>by
      have:=kJ hl;rw[<-e] at this
      exact (zP6.1 this).symm⟩
 | l hz hb hn hs hl hc =>
   cases b with
   | nil=>exact⟨rfl,_,[],⟨(kJ hl).symm,hc⟩,⟨rfl,fun i x v h=>by simp at h⟩,fun e=>by
      have:=kJ hl;rw[e] at this
      exact zP6.1 this⟩
   | l hz' hb' hn' hs' hl' hc'=>exact⟨rfl,_,_,⟨(kJ hl).symm,hc⟩,⟨(kJ hl').symm,hc'⟩,fun e=>by
      rw[e] at hl;rw[hl] at hl'
      exact zPS hl'⟩
def C1.list {α:Type}(el:TypeId)(c:C1 α):C1 (List α):=⟨fun xs=>.l el xs.length (xs.map c.f),fun xs ys h=>map_inj c xs ys (by injection h),fun Z Z' H xs ys v a b=>by
 obtain⟨h1,vs,vs',h2,h3,h4⟩:=pW a b;have:=h4 (by simp[h1]);subst this
 exact qRC c xs ys _ h2 h3⟩
def CN.one {α:Type}(c:C1 α):CN α:=⟨fun x=>[c.f x],1,fun _=>rfl,fun x y h=>c.inj x y (by injection h),fun Z Z' H x y vs a b=>by
 obtain⟨v,vs',rfl,a1,_⟩:=a.zFF;obtain⟨v',vs2,e,b1,_⟩:=b.zFF;simp only[zPK] at e;obtain⟨rfl,rfl⟩:=e
 exact c.uniq _ _ H x y _ a1 b1⟩
def PEn.one {α:Type}(c:C1 α):PEn α:=⟨fun x=>.f (c.f x),fun x y h=>c.inj x y (by injection h),fun P Z Z' H x y v a b=>by
 cases a with
 | f a=>cases b with
   | f b=>exact c.uniq _ _ H x y v a b⟩
theorem q95:∀ (l m:List FV),l.map PV.f=m.map PV.f->l=m
 | [],[],_=>rfl
 | [],y::m,h=>by cases h
 | x::l,[],h=>by cases h
 | x::l,y::m,h=>by
   simp only[zPB,zPK,PV.f.injEq] at h;rw[h.1,q95 l m h.2]
theorem qCV {vs:List Value}(h:VRL P Z H M (xs.map .f) vs):FRL Z H xs vs:=⟨by simpa using h.len,fun i x v h1 h2=>by
 have:=h.val i (.f x) v (by simp[h1]) h2
 cases this with
 | f h=>exact h⟩
section
variable {ds:List (Option Tmp)}{o:Oper}{l:List Oper}{env:List PV}{ph:PHp}
noncomputable def qTF (P:Program)(tab:u6)(inl:FuncId->Bool)(nm:Nm)(ds:List (Option Tmp))(o:Oper)(l:List Oper)(env:List PV)(ph:PHp):PE->PT
 | .fail=>.fail
 | .ok v ph'=>q88 (needs o.op) (qH nm o.dst) nm env ph (pops P tab inl nm ds l (yO env o.dst v) ph')
 | .call g args ph'=>.call (qV3 nm (qJ3 nm g env ph')) g args ph' fun v ph2=>.chk (clean (qV3 nm (qJ3 nm g env ph')).p env ph2) (pops P tab inl nm ds l (yO env o.dst v) ph2)
 | .rnd x args ph'=>.rnd x args ph' fun v ph2=>pops P tab inl nm ds l (yO env o.dst v) ph2
noncomputable def pgo (P:Program)(tab:u6)(inl:FuncId->Bool)(nm:Nm)(ds:List (Option Tmp))(o:Oper)(l:List Oper)(env:List PV)(ph:PHp)(c:Option Bool):PT :=
 vK c (qTF P tab inl nm ds o l env ph (bI P tab inl (qH nm o.dst) o env ph)) (pops P tab inl nm ds l (yO env o.dst (.tup [])) ph) .fail
theorem qVR:pops P tab inl nm ds (o::l) env ph=pgo P tab inl nm ds o l env ph (vO ds o env):=by
 unfold pops pgo qTF;cases bI P tab inl (qH nm o.dst) o env ph <;> rfl
theorem q3R:pgo P tab inl nm ds o l env ph (some true)=qTF P tab inl nm ds o l env ph (bI P tab inl (qH nm o.dst) o env ph):=Eq.trans rfl rfl
theorem qVG:pgo P tab inl nm ds o l env ph (some false)=pops P tab inl nm ds l (yO env o.dst (.tup [])) ph:=Eq.trans rfl rfl
theorem qQ8 {v:PV}:qTF P tab inl nm ds o l env ph (.ok v ph')=q88 (needs o.op) (qH nm o.dst) nm env ph (pops P tab inl nm ds l (yO env o.dst v) ph'):=Eq.trans rfl rfl
theorem qSR {g:FuncId}:qTF P tab inl nm ds o l env ph (.call g args ph')=.call (qV3 nm (qJ3 nm g env ph')) g args ph' fun v ph2=>.chk (clean (qV3 nm (qJ3 nm g env ph')).p env ph2) (pops P tab inl nm ds l (yO env o.dst v) ph2):=Eq.trans rfl rfl
theorem qZE {x:Nat}:qTF P tab inl nm ds o l env ph (.rnd x args ph')=.rnd x args ph' fun v ph2=>pops P tab inl nm ds l (yO env o.dst v) ph2:=Eq.trans rfl rfl
noncomputable def qR1 (w:Bool):Option PV->Option Bool
 | some v=>qP8 w v
 | none=>none
theorem qM3 {t:Tmp}:qP5 w env (some t)=qR1 w (zG env t):=by
 show (match zG env t with | some v=>qP8 w v | none=>none)=qR1 w (zG env t);cases zG env t <;> rfl
theorem qA5 {b:Bool}:qR1 w (some (fvv (.bool b)))=some (b==w):=rfl
theorem qSV:qR1 w (some (.tup []))=some false:=rfl
theorem aM (n:Nat):Nat.beq n n=true:=by simp
end
section
variable {t t2:TypeId}{k:IntKind}{a b:Int}{ph:PHp}
theorem aS {op:BinOp}(h:mK op k a b=some v)(hv:ofC v=fvv v):wY P op t t2 (fvv (.int k a)) (fvv (.int k b)) ph=some (fvv v):=by
 rw[<-hv];unfold wY;simp only[fvv,pl,zCE,cond_false];rw[q5W h];rfl
theorem zB2:wY P .lss t t2 (fvv (.int k a)) (fvv (.int k b)) ph=some (fvv (.bool (decide (a < b)))):=aS rfl rfl
theorem zAI:wY P .leq t t2 (fvv (.int k a)) (fvv (.int k b)) ph=some (fvv (.bool (decide (a<=b)))):=aS rfl rfl
theorem zB6:wY P .gtr t t2 (fvv (.int k a)) (fvv (.int k b)) ph=some (fvv (.bool (decide (b < a)))):=aS rfl rfl
theorem zA8:wY P .geq t t2 (fvv (.int k a)) (fvv (.int k b)) ph=some (fvv (.bool (decide (b<=a)))):=aS rfl rfl
theorem zBK:wY P .eql t t2 (fvv (.int k a)) (fvv (.int k b)) ph=some (fvv (.bool (a==b))):=aS rfl rfl
theorem q91:wY P .neq t t2 (fvv (.int k a)) (fvv (.int k b)) ph=some (fvv (.bool (a != b))):=aS rfl rfl
theorem zAN:wY P .add t t2 (fvv (.int k a)) (fvv (.int k b)) ph=some (fvv (.int k (k.wrap (a+b)))):=aS rfl rfl
theorem zAO:wY P .sub t t2 (fvv (.int k a)) (fvv (.int k b)) ph=some (fvv (.int k (k.wrap (a - b)))):=aS rfl rfl
theorem zBE:wY P .mul t t2 (fvv (.int k a)) (fvv (.int k b)) ph=some (fvv (.int k (k.wrap (a*b)))):=aS rfl rfl
def q9A (k:IntKind)(a b:Int):Option Int:=if b=0 then none else some (k.wrap (a.tdiv b))
def zCI (a b:Int):Option Int:=if b=0 then none else some (a.tmod b)
theorem zBY (h:q9A k a b=some c):wY P .quo t t2 (fvv (.int k a)) (fvv (.int k b)) ph=some (fvv (.int k c)):=by
 unfold q9A at h;split at h
 ·cases h
 ·rename_i hb;cases h;exact aS (v:=.int k (k.wrap (a.tdiv b))) (by unfold mK;simp only[if_neg hb]) rfl
theorem q98 (h:zCI a b=some c):wY P .rem t t2 (fvv (.int k a)) (fvv (.int k b)) ph=some (fvv (.int k c)):=by
 unfold zCI at h;split at h
 ·cases h
 ·rename_i hb;cases h;exact aS (v:=.int k (a.tmod b)) (by unfold mK;simp only[if_neg hb]) rfl
theorem zAB {x:Bool}:bG P (fun a=>.unOp .not t a) (fvv (.bool x))=some (fvv (.bool !x)):=rfl
end
end Go.Idl
namespace Go.Idl
variable [Gc]
variable {P:Program}{G:Nat->Bool}{nat:xB}{tab:u6}{nm:Nm}
def dl1:PV->List Nat
 | .own k _ _ _=>[k]
 | .ref k _ _=>[k]
 | .mp k=>[k]
 | .asl _ k _=>[k]
 | _=>[]
noncomputable def dlO (o:Oper)(env:List PV):List Nat:=o.op.operands.toList.flatMap fun x=>dl1 (qJ env x)
theorem rD {o:Oper}{env:List PV}{x:Operand}{k:Nat}(hx:x∈o.op.operands)(hk:k∈dl1 (qJ env x)):k∈dlO o env:=List.mem_flatMap.2 ⟨x,zP9.1 hx,hk⟩
theorem qBJ {env env':List PV}{ps:List (Nat×Operand)}(h:∀ x∈ps.map (·.2),qJ env x=qJ env' x):(ps.map fun p=>(p.1,qJ env p.2))=ps.map fun p=>(p.1,qJ env' p.2) :=
 zQI fun p hp=>by rw[h p.2 (zPL.2 ⟨p,hp,rfl⟩)]
theorem qSS (P:Program){env env':List PV}{x:Operand}(h:qJ env x=qJ env' x)(ha:(pl (qJ env x)).isSome=true):(qSZ env).val x=(qSZ env').val x:=by
 obtain⟨a,ha⟩:=zP1.1 ha;rw[cZ P ha,cZ P (h ▸ ha)]
theorem qKD {b:Builtin}{args:Array Operand}{ts:Array TypeId}{env env':List PV}{ty:TypeId}{ph:PHp}(h:∀ x∈args,qJ env x=qJ env' x) :
 vY P b ⟨.builtin b,args,ts⟩ (args.toList.map (qJ env)) env ty ph=vY P b ⟨.builtin b,args,ts⟩ (args.toList.map (qJ env')) env' ty ph:=by
 have e:args.toList.map (qJ env)=args.toList.map (qJ env'):=zQI fun x hx=>h x (zP9.2 hx)
 unfold vY;rw[<-e]
 cases hp:plL (args.toList.map (qJ env)) with
 | none=>rfl
 | some vs =>
   simp only
   have:jK P (cop (.call ⟨.builtin b,args,ts⟩) ty) (qSZ env) H00=jK P (cop (.call ⟨.builtin b,args,ts⟩) ty) (qSZ env') H00:=by
    refine rO (fun cs b h=>by cases h) fun x hx=>?_
    have hx':x∈args:=by simpa [Op.operands,Call.operands,cop] using hx
    obtain⟨a,ha⟩:=qGU hp (qJ env x) (zPL.2 ⟨x,by simpa using hx',rfl⟩);exact qSS P (h x hx') (by rw[ha];rfl)
   rw[this]
theorem qTC {o:Oper}{env env':List PV}{k:Nat}{ph:PHp}(h:∀ x∈o.op.operands,qJ env x=qJ env' x):rA P o env k ph=rA P o env' k ph:=by
 obtain⟨d,op,ty,pos,aft,g⟩:=o;cases op <;> simp only[Op.operands] at h <;> simp only[rA]
 case move x=>rw[h x (by simp)]
 case assign x=>rw[h x (by simp)]
 case pick c a b=>rw[h c (by simp),h a (by simp),h b (by simp)]
 case box el x=>rw[h x (by simp)]
 case build t ps=>rw[qBJ fun x hx=>h x (by simpa using hx)]
 case buildSlice t n ps=>rw[qBJ fun x hx=>h x (by simpa using hx)]
 case load t a=>rw[h a (by simp)]
 case store t a x=>rw[h a (by simp),h x (by simp)]
 case nilCheck x=>rw[h x (by simp)]
 case binOp op t x y t2=>rw[h x (by simp),h y (by simp)]
 case unOp op t x=>rw[h x (by simp)]
 case convert s t x=>rw[h x (by simp)]
 case makeFunc fn first cap =>
  rw[zQI (l:=first.toList) fun x hx=>h x (zRB.2 (.inl (zP9.2 hx))),zQI (l:=cap.toList) fun x hx=>h x (zRB.2 (.inr (zP9.2 hx)))]
 case makeSlice t l c=>rw[h l (by simp),h c (by simp)]
 case slice t x lo hi mx =>
  cases mx with
  | some m=>rfl
  | none =>
    have e1:lo.map (qJ env)=lo.map (qJ env'):=by cases lo <;> simp_all
    have e2:hi.map (qJ env)=hi.map (qJ env'):=by cases hi <;> simp_all
    have e3:(lo.toList++hi.toList).map (qJ env)=(lo.toList++hi.toList).map (qJ env'):=by cases lo <;> cases hi <;> simp_all
    have e4:lo.map (fun a=>Operand.const ((pl (qJ env a)).getD undef))=lo.map fun a=>Operand.const ((pl (qJ env' a)).getD undef):=by cases lo <;> simp_all
    have e5:hi.map (fun a=>Operand.const ((pl (qJ env a)).getD undef))=hi.map fun a=>Operand.const ((pl (qJ env' a)).getD undef):=by cases hi <;> simp_all
    simp only[h x (by simp),e1,e2,e3,e4,e5]
 case fieldAddr t x i=>rw[h x (by simp)]
 case indexAddr t x ix=>rw[h x (by simp),h ix (by simp)]
 case index t x ix=>rw[h x (by simp),h ix (by simp)]
 case extract t i=>rw[h t (by simp)]
 case makeMap t r=>cases r <;> rfl
 case lookup t x kx ok=>rw[h x (by simp),h kx (by simp)]
 case mapUpdate t m kx x=>rw[h m (by simp),h kx (by simp),h x (by simp)]
 case mapEntry t m kx=>rw[h m (by simp),h kx (by simp)]
 case call c =>
  obtain⟨cal,args,ts⟩:=c;simp only[Call.operands] at h;have ha:∀ x∈args,qJ env x=qJ env' x:=fun x hx=>h x (by cases cal <;> simp[hx])
  have e:args.toList.map (qJ env)=args.toList.map (qJ env'):=zQI fun x hx=>ha x (zP9.2 hx)
  cases cal with
  | builtin b =>
    have hD:=qKD (P:=P) (b:=b) (ts:=ts) (ty:=ty) (ph:=ph) ha;simp only[uQ]
    cases b <;> simp only[e] at hD ⊢ <;> first | rfl | exact hD | skip
    rw[<-e] at hD;rw[<-e]
    cases hl:args.toList.map (qJ env) with
    | nil=>rfl
    | cons x l =>
      cases l with
      | nil =>
        simp only;rw[hl] at hD;rw[hD]
      | cons=>rfl
  | invoke r n=>rfl
  | value f=>rfl
theorem yD {l k:Nat}{ob:PO}{ph:PHp}(h:l≠k):qA l ((k,ob)::ph)=qA l ph:=by
 have:(l==k)=false:=by simpa using h
 show cond (l==k) (some ob) (qA l ph)=_;rw[this];rfl
theorem qE1 {k:Nat}{ob:PO}{v y:PV}{ph ph':PHp}(h:qDN k ob v ph=some (y,ph')){l:Nat}(hl:l≠k):qA l ph'=qA l ph:=by
 obtain⟨_,rfl⟩:=fJ h;exact yD hl
theorem qNJ {m:PV}{ph:PHp}{k:Nat}{r:PO×Nat×List MapEntry}(h:gU P m ph=some (k,r)):m=.mp k:=by
 unfold gU at h;split at h
 ·split at h
  ·rename_i ob _
   cases hc:(spec P ob.el&&Nat.beq ob.el 1000000001) with
   | false=>rw[hc] at h;cases h
   | true =>
     rw[hc] at h;simp only[cond_true] at h;split at h
     ·cases h;rfl
     ·cases h
  ·cases h
 ·cases h
theorem qPI {k l:Nat}{ob:PO}{ph:PHp}(h:l≠k):qA l (xN k ob ph)=qA l ph:=by rw[qY,if_neg (fun e=>h e.1)]
theorem qJW {t:TypeId}{m kx x:PV}{ph ph':PHp}(h:j4 P t m kx x ph=some ph'){l:Nat}(hl:l ∉ dl1 m):qA l ph'=qA l ph:=by
 unfold j4 at h;split at h
 case h_2=>cases h
 rename_i kt et k ob c es kv xv hu hm hkv hxv;have e:=qNJ hm;subst e;have hne:l≠k:=fun e=>hl (by rw[e];simp[dl1])
 cases hc:zB xv with
 | false=>rw[hc] at h;cases h
 | true =>
   rw[hc] at h;simp only[cond_true] at h;split at h
   ·split at h
    ·rename_i e _
     cases hs:Instr.sameBits 10000 e.key kv with
     | false=>rw[hs] at h;cases h
     | true=>rw[hs] at h;cases h;exact qPI hne
    ·cases h
   ·cases h;exact qPI hne
   ·cases h
theorem qN1 {t:TypeId}{m kx y:PV}{ph ph':PHp}(h:kK P t m kx ph=some (y,ph')){l:Nat}(hl:l ∉ dl1 m):qA l ph'=qA l ph:=by
 unfold kK at h;split at h
 case h_2=>cases h
 rename_i kt et k ob c es kv hu hm hkv;have e:=qNJ hm;subst e;have hne:l≠k:=fun e=>hl (by rw[e];simp[dl1])
 split at h
 ·split at h
  ·rename_i e _;have h:=(yN h).2;cases h;exact qPI hne
  ·cases h
 ·split at h
  ·rename_i z _;have h:=(yN h).2;cases h;exact qPI hne
  ·cases h
 ·cases h
theorem qD1 {t:TypeId}{m kx y:PV}{ph ph':PHp}(h:kK P t m kx ph=some (y,ph')):kQ P t m kx false ph'=kQ P t m kx false ph:=by
 unfold kK at h;split at h
 case h_2=>cases h
 rename_i kt et k ob c es kv hu hm hkv;have e:=qNJ hm;subst e
 have hob:qA k ph=some ob∧(spec P ob.el&&Nat.beq ob.el 1000000001)=true:=by
  unfold gU at hm;simp only at hm;split at hm
  ·rename_i ob' ho;obtain⟨c1,h2⟩:=yN hm;split at h2
   ·cases h2;exact⟨ho,c1⟩
   ·cases h2
  ·cases hm
 have hm':∀ c' es',gU P (.mp k) (xN k { ob with cs:=kN c' es' } ph)=some (k,{ ob with cs:=kN c' es' },c',es'):=fun c' es'=>by
  unfold gU;simp only[qY,hob.1,zR5,and_self,if_true,hob.2,cond_true,qF9]
 split at h
 ·rename_i i hi;split at h
  ·rename_i e he;obtain⟨hc,h⟩:=yN h;rw[zOT] at hc;cases h;unfold kQ;simp only[hu,hm',hm,hkv,qUA hc.2,hi,zS6,he,if_true];rfl
  ·cases h
 ·rename_i hi;split at h
  ·rename_i z hz;obtain⟨hc,h⟩:=yN h;rw[zOT] at hc;cases h;unfold kQ;simp only[hu,hm',hm,hkv,qUA hc.2,hi,hz,hc.1,cond_true];simp[qZ7]
  ·cases h
 ·cases h
theorem zAX {o:Oper}{env:List PV}{k:Nat}{ph ph':PHp}{v:PV}(h:rA P o env k ph=some (v,ph')){l:Nat}(hk:l≠k)(hd:l ∉ dlO o env):qA l ph'=qA l ph:=by
 obtain⟨d,op,ty,pos,aft,g⟩:=o;have one:∀ {r:Option PV},pp1 ph r=some (v,ph')->qA l ph'=qA l ph:=fun h=>by rw[(zU h).2]
 have nin:∀ x∈op.operands,l ∉ dl1 (qJ env x):=fun x hx hl=>hd (rD (o:=⟨d,op,ty,pos,aft,g⟩) hx hl)
 cases op <;> simp only[rA] at h <;> (try (cases h;done)) <;> (try (exact one h))
 case move=>cases h;rfl
 case assign=>cases h;rfl
 case pick=>split at h <;> cases h;rfl
 case alloc el =>
  unfold mH at h;split at h
  ·exact qE1 (gM h).2 hk
  ·cases h
 case box el x =>
  unfold q02 at h
  cases hc:(!(spec P el)&&(pnt (qJ env x)&&(zC (qJ env x)).all aO)) with
  | true=>rw[hc] at h;exact qE1 h hk
  | false=>rw[hc] at h;cases h
 case buildSlice t n ps =>
  unfold zZ at h;split at h
  ·split at h
   ·rename_i s z _ _
    cases hc:(Nat.beq z.length (s+1)&&Nat.ble (n*(s+1)) 65536) with
    | true =>
      rw[hc] at h;simp only[cond_true] at h;split at h
      ·exact qE1 h hk
      ·cases h
    | false=>rw[hc] at h;cases h
   ·cases h
  ·cases h
 case store t a x =>
  unfold ppS at h;split at h
  ·rename_i ph1 hs;cases h;unfold jO at hs;split at hs
   ·rename_i k' tt off ha;have hne:l≠k':=fun e=>nin a (by simp[Op.operands]) (by rw[ha,e];simp[dl1])
    split at hs
    ·split at hs
     ·rename_i ob _ _ n _
      replace hs:=(gM hs).2
      cases hc:(Nat.beq tt ob.cs.length&&(Nat.beq n (zC (qJ env x)).length&&(Nat.ble (off+n) ob.cs.length&&(pnt (qJ env x)&&(zC (qJ env x)).all aO)))) with
      | true=>rw[hc] at hs;cases hs;rw[qY,if_neg (fun h=>hne h.1)]
      | false=>rw[hc] at hs;cases hs
     ·cases hs
    ·cases hs
   ·cases hs
  ·cases h
 case convert s t x =>
  cases hc:qR2 (qJ env x) with
  | true=>rw[hc] at h;cases h
  | false=>rw[hc] at h;exact one h
 case makeSlice t a b =>
  unfold xA at h;split at h
  ·rename_i el k1 n1 k2 m1 _ _ _
   cases hc:decide (n1=m1) with
   | false=>rw[hc] at h;cases h
   | true =>
     rw[hc] at h;simp only[cond_true] at h;split at h
     ·rename_i n s z _ _ _
      cases hc:(jA P el&&Nat.beq z.length (s+1)) with
      | true=>rw[hc] at h;exact qE1 h hk
      | false=>rw[hc] at h;cases h
     ·cases h
  ·cases h
 case slice t x lo hi mx =>
  cases mx with
  | some=>cases h
  | none =>
    simp only at h;split at h
    ·split at h
     ·exact one h
     ·cases h
    ·exact one h
 case index=>split at h <;> exact one h
 case makeMap t r =>
  cases r with
  | some _=>cases h
  | none =>
    unfold dD at h
    cases hc:spec P 1000000001 with
    | false=>rw[hc] at h;cases h
    | true=>rw[hc] at h;exact qE1 h hk
 case mapUpdate t m kx x =>
  unfold ppS at h;split at h
  ·rename_i ph1 hs;cases h;exact qJW hs (nin m (by simp[Op.operands]))
  ·cases h
 case mapEntry t m kx=>exact qN1 h (nin m (by simp[Op.operands]))
 case call c =>
  obtain⟨cal,args,ts⟩:=c;split at h
  ·rename_i b hb;simp only at hb;subst hb
   have dry:vY P b ⟨.builtin b,args,ts⟩ (args.toList.map (qJ env)) env ty ph=some (v,ph')->qA l ph'=qA l ph:=fun h=>by
    unfold vY at h;split at h
    ·exact one h
    ·cases h
   have mem:∀ x,x∈args.toList.map (qJ env)->l ∉ dl1 x:=fun x hx=>by
    obtain⟨a,ha,rfl⟩:=zPL.1 hx;exact nin a (by simpa [Op.operands,Call.operands] using ha)
   unfold uQ at h;split at h
   ·split at h
    ·rename_i x y hxy;have hx:l ∉ dl1 x:=mem x (by rw[hxy];simp);unfold zT at h
     have grow:∀ {el s:Nat} {old:List PV} {n:Nat} {new:List PV} {mm kk:Nat} {php:PHp},pO P el s old n new mm kk php=some (v,ph')->l≠kk->qA l ph'=qA l php:=fun hg hkk=>by
      unfold pO at hg;rename_i el s old n new mm kk php
      cases hc:(Nat.ble (n+mm) 1048576&&(jA P el&&(Nat.beq (old.length) (n*s)&&(Nat.beq new.length (mm*s)&&new.all aO)))) with
      | true=>rw[hc] at hg;exact qE1 hg hkk
      | false=>rw[hc] at hg;cases hg
     split at h
     ·split at h
      ·split at h
       ·split at h
        ·rename_i el _ _ _ _ s _ _ mm new _;split at h
         ·cases h0:Nat.beq mm 0 with
          | true=>rw[h0] at h;cases h;rfl
          | false=>rw[h0] at h;exact grow h hk
         ·rename_i j tt o n;have hj:l≠j:=fun e=>hx (by rw[e];simp[dl1])
          split at h
          ·rename_i ob hl
           cases hc:(Nat.beq ob.el el&&(Nat.beq (tt*(s+1)) ob.cs.length&&Nat.beq o 0)) with
           | false=>rw[hc] at h;cases h
           | true =>
             rw[hc] at h;simp only[cond_true] at h
             cases h0:Nat.beq mm 0 with
             | true=>rw[h0] at h;cases h;rfl
             | false =>
               rw[h0] at h;simp only[cond_false] at h
               cases hr:Nat.ble (n+mm) tt with
               | true =>
                 rw[hr] at h;simp only[cond_true] at h
                 cases hc2:(Nat.beq new.length (mm*(s+1))&&new.all aO) with
                 | true=>rw[hc2] at h;cases h;rw[qY,if_neg (fun h=>hj h.1)]
                 | false=>rw[hc2] at h;cases h
               | false =>
                 rw[hr] at h;simp only[cond_false] at h
                 cases hn:Nat.beq n tt with
                 | false=>rw[hn] at h;cases h
                 | true =>
                   rw[hn] at h;simp only[cond_true] at h
                   cases hg:ob.gr with
                   | true=>rw[hg] at h;rw[grow h hj,yV,if_neg hj]
                   | false=>rw[hg] at h;exact grow h hk
          ·cases h
         ·cases h
        ·cases h
       ·cases h
      ·cases h
     ·cases h
    ·cases h
   ·split at h
    ·rename_i x y hxy;have hx:l ∉ dl1 x:=mem x (by rw[hxy];simp);unfold qIG at h;split at h
     ·split at h
      ·split at h
       ·split at h
        ·rename_i el _ _ _ _ s _ _ mm new _;split at h
         ·rename_i j tt o n;have hj:l≠j:=fun e=>hx (by rw[e];simp[dl1])
          split at h
          ·rename_i ob hl
           cases hc:(Nat.beq ob.el el&&(Nat.beq (tt*(s+1)) ob.cs.length&&(Nat.beq new.length (mm*(s+1))&&new.all aO))) with
           | false=>rw[hc] at h;cases h
           | true=>rw[hc] at h;cases h;rw[qY,if_neg (fun h=>hj h.1)]
          ·cases h
         ·cases h;rfl
         ·cases h;rfl
         ·cases h
        ·cases h
       ·cases h
      ·cases h
     ·cases h
    ·cases h
   ·split at h
    ·cases hc:qZW P ts with
     | true=>rw[hc] at h;exact dry h
     | false=>rw[hc] at h;exact one h
    ·cases h
   ·exact dry h
   ·exact dry h
   ·cases h
  ·cases h
theorem q8F {t:TypeId}{a x:PV}{ph ph':PHp}(h:fZ P t a ph=some x)(hd:∀ l∈dl1 a,qA l ph'=qA l ph):fZ P t a ph'=some x:=by
 cases a <;> first | exact h | skip
 rename_i k tt off;have:=hd k (by simp[dl1]);unfold fZ at h ⊢;simp only[this];exact h
theorem qU7 {k tt:Nat}{ph ph':PHp}(h:qA k ph'=qA k ph):live? k tt ph'=live? k tt ph:=by unfold live?;rw[h]
theorem qND {a x:PV}{ph ph':PHp}(h:yM a ph=some x)(hd:∀ l∈dl1 a,qA l ph'=qA l ph):yM a ph'=some x:=by
 unfold yM at h ⊢;split at h
 ·rename_i k tt off;rw[qU7 (tt:=tt) (hd k (by simp[dl1]))];exact h
 ·exact h
 ·exact h
 ·exact h
 ·cases h
theorem q1Z {t:TypeId}{a x:PV}{lo hi:Option PV}{ph ph':PHp}(h:wW P t a lo hi ph=some x)(hd:∀ l∈dl1 a,qA l ph'=qA l ph):wW P t a lo hi ph'=some x:=by
 unfold wW at h ⊢;split at h
 ·exact h
 ·exact h
 ·rename_i k tt o n;rw[hd k (by simp[dl1])];exact h
 ·rename_i k tt;rw[hd k (by simp[dl1])];exact h
 ·cases h
theorem qK1 {t:TypeId}{a x:PV}{i:Nat}{ph ph':PHp}(h:zX P t a i ph=some x)(hd:∀ l∈dl1 a,qA l ph'=qA l ph):zX P t a i ph'=some x:=by
 cases a <;> first | exact h | skip
 rename_i k tt off;have:=qU7 (tt:=tt) (hd k (by simp[dl1]));unfold zX at h ⊢;simp only[this];exact h
theorem qIV {t:TypeId}{a ix x:PV}{ph ph':PHp}(h:zA P t a ix ph=some x)(hd:∀ l∈dl1 a,qA l ph'=qA l ph):zA P t a ix ph'=some x:=by
 unfold zA at h ⊢;split at h
 ·split at h
  ·exact h
  ·rename_i k tt o n;rw[hd k (by simp[dl1])];exact h
  ·rename_i k tt off;rw[qU7 (tt:=tt) (hd k (by simp[dl1]))];exact h
  ·exact h
  ·cases h
 ·cases h
theorem zBD {ts:Array TypeId}{a x:PV}{ph ph':PHp}(h:q0B P ts a ph=some x)(hd:∀ l∈dl1 a,qA l ph'=qA l ph):q0B P ts a ph'=some x:=by
 unfold q0B at h ⊢;split at h
 ·split at h
  ·split at h
   ·exact h
   ·exact h
   ·rename_i k tt o n;rw[hd k (by simp[dl1])];exact h
   ·cases h
  ·exact h
 ·cases h
theorem q7D {ts:Array TypeId}{a x:PV}{ph ph':PHp}(h:qDP P ts a ph=some x)(hd:∀ l∈dl1 a,qA l ph'=qA l ph):qDP P ts a ph'=some x:=by
 have e:tQ P a ph'=tQ P a ph:=by
  cases a <;> first | rfl | skip
  rename_i k;unfold tQ;simp only[hd k (by simp[dl1])]
 unfold qDP at h ⊢;rw[e];split at h
 ·exact h
 ·exact zBD h hd
theorem qWI {t:TypeId}{m kx x:PV}{ok:Bool}{ph ph':PHp}(h:kQ P t m kx ok ph=some x)(hd:∀ l∈dl1 m,qA l ph'=qA l ph):kQ P t m kx ok ph'=some x:=by
 have e:gU P m ph'=gU P m ph:=by
  cases m <;> first | rfl | skip
  rename_i k;unfold gU;simp only[hd k (by simp[dl1])]
 unfold kQ at h ⊢;rw[e];exact h
theorem q8W {a:PV}{b:Bool}{ph ph':PHp}(h:isNil (P:=P) a ph=some b)(hd:∀ l∈dl1 a,qA l ph'=qA l ph):isNil (P:=P) a ph'=some b:=by
 unfold isNil at h ⊢;split at h
 ·exact h
 ·exact h
 ·rename_i k tt o n;rw[hd k (by simp[dl1])];exact h
 ·cases h
theorem q9X {t:TypeId}{a b:PV}{r:Bool}{ph ph':PHp}(h:qFJ P t a b ph=some r)(hd:∀ l∈dl1 a,qA l ph'=qA l ph):qFJ P t a b ph'=some r:=by
 unfold qFJ at h ⊢;split at h
 ·cases hc:(zN P t).isSome with
  | true=>rw[hc] at h;exact q8W h hd
  | false=>rw[hc] at h;cases h
 ·exact h
 ·cases h
theorem qYE {t:TypeId}{a b x:PV}{ph ph':PHp}{f:Bool->PV}(h:gF P t a b ph f=some x)(hd:∀ l∈dl1 a,qA l ph'=qA l ph):gF P t a b ph' f=some x:=by
 unfold gF at h ⊢;split at h
 ·rename_i r h1;rw[q9X h1 hd];exact h
 ·have:qFJ P t a b ph'=none:=by
   unfold qSP at h;split at h
   ·rename_i el n c;unfold qFJ
    cases hc:(zN P t).isSome with
    | false=>rw[hc] at h;cases h
    | true=>rfl
   ·cases h
  rw[this];exact h
theorem zAH {op:BinOp}{t t2:TypeId}{a b x:PV}{ph ph':PHp}(h:wY P op t t2 a b ph=some x)(hd:∀ l∈dl1 a,qA l ph'=qA l ph):wY P op t t2 a b ph'=some x:=by
 unfold wY at h ⊢;split at h
 ·exact h
 ·split at h
  ·exact qYE h hd
  ·exact qYE h hd
  ·cases h
theorem zAU {o:Oper}{env:List PV}{k:Nat}{ph ph1:PHp}{v:PV}(hf:yQ o=false)(ha:qL o=false)(h:rA P o env k ph=some (v,ph1)) :
 ph1=ph∧∀ (k':Nat) (ph':PHp),(∀ l∈dlO o env,qA l ph'=qA l ph)->rA P o env k' ph'=some (v,ph'):=by
 obtain⟨d,op,ty,pos,aft,g⟩:=o;have mem:∀ {x:Operand} {ph':PHp},x∈op.operands->(∀ l∈dlO ⟨d,op,ty,pos,aft,g⟩ env,qA l ph'=qA l ph)->∀ l∈dl1 (qJ env x),qA l ph'=qA l ph:=fun hx hd l hl=>hd l (rD (o:=⟨d,op,ty,pos,aft,g⟩) hx hl)
 have one:∀ {f:PHp->Option PV},pp1 ph (f ph)=some (v,ph1)->(∀ {x ph'},(∀ l∈dlO ⟨d,op,ty,pos,aft,g⟩ env,qA l ph'=qA l ph)->f ph=some x->f ph'=some x)->ph1=ph∧∀ (k':Nat) (ph':PHp),(∀ l∈dlO ⟨d,op,ty,pos,aft,g⟩ env,qA l ph'=qA l ph)->pp1 ph' (f ph')=some (v,ph'):=fun h hk=>by
  obtain⟨h1,h2⟩:=zU h;exact⟨h2,fun k' ph' hd=>by rw[hk hd h1];rfl⟩
 have hne:xL ⟨d,op,ty,pos,aft,g⟩=.pure∨xL ⟨d,op,ty,pos,aft,g⟩=.read:=qGZ hf ha
 cases op <;> simp only[rA] at h ⊢ <;> (try (cases h;done))
 case move=>cases h;exact⟨rfl,fun _ _ _=>rfl⟩
 case assign=>cases h;exact⟨rfl,fun _ _ _=>rfl⟩
 case pick c a b =>
  split at h
  ·rename_i t ht;cases h;refine⟨rfl,fun _ _ _=>?_⟩;simp only[ht]
  ·cases h
 case alloc=>simp only[xL] at hne;split at hne <;> (rcases hne with h | h <;> cases h)
 case box=>rcases hne with h | h <;> cases h
 case buildSlice=>rcases hne with h | h <;> cases h
 case store=>rcases hne with h | h <;> cases h
 case makeSlice=>rcases hne with h | h <;> cases h
 case build t ps =>
  obtain⟨h1,h2⟩:=zU h;exact⟨h2,fun k' ph' hd=>by rw[h1];rfl⟩
 case load t a=>exact one (f:=fun q=>fZ P t (qJ env a) q) h fun hd h=>q8F h (mem (by simp[Op.operands]) hd)
 case nilCheck x=>exact one (f:=fun q=>yM (qJ env x) q) h fun hd h=>qND h (mem (by simp[Op.operands]) hd)
 case binOp op t x y t2=>exact one (f:=fun q=>wY P op t t2 (qJ env x) (qJ env y) q) h fun hd h=>zAH h (mem (by simp[Op.operands]) hd)
 case unOp op t x=>exact one (f:=fun _=>bG P (fun a=>.unOp op t a) (qJ env x)) h fun _ h=>h
 case convert s t x =>
  cases hc:qR2 (qJ env x) with
  | true=>rw[hc] at h;cases h
  | false =>
    rw[hc] at h;simp only[cond_false] at h ⊢;exact one (f:=fun _=>bG P (fun a=>.convert s t a) (qJ env x)) h fun _ h=>h
 case makeFunc fn a b=>exact one (f:=fun _=>vL fn (a.toList.map (qJ env)) (b.toList.map (qJ env))) h fun _ h=>h
 case slice t x lo hi mx =>
  cases mx with
  | some=>cases h
  | none =>
    simp only at h ⊢;split at h
    ·rename_i s hs;split at h
     ·rename_i vs hvs;exact one (f:=fun _=>qNW P (.slice t (.const (.string s)) (lo.map fun a=>.const ((pl (qJ env a)).getD undef)) (hi.map fun a=>.const ((pl (qJ env a)).getD undef)) none)) h fun _ h=>h
     ·cases h
    ·exact one (f:=fun q=>wW P t (qJ env x) (lo.map (qJ env)) (hi.map (qJ env)) q) h fun hd h=>q1Z h (mem (by cases lo <;> cases hi <;> simp[Op.operands]) hd)
 case fieldAddr t x i=>exact one (f:=fun q=>zX P t (qJ env x) i q) h fun hd h=>qK1 h (mem (by simp[Op.operands]) hd)
 case indexAddr t x ix=>exact one (f:=fun q=>zA P t (qJ env x) (qJ env ix) q) h fun hd h=>qIV h (mem (by simp[Op.operands]) hd)
 case index t x ix =>
  split at h
  ·rename_i s j hs hj;exact one (f:=fun _=>qNW P (.index t (.const (.string s)) (.const j))) h fun _ h=>h
  ·exact one (f:=fun _=>qEM P t (qJ env x) (qJ env ix)) h fun _ h=>h
 case extract t i=>exact one (f:=fun _=>dY (qJ env t) i) h fun _ h=>h
 case makeMap=>rcases hne with h | h <;> cases h
 case lookup t x kx ok=>exact one (f:=fun q=>kQ P t (qJ env x) (qJ env kx) ok q) h fun hd h=>qWI h (mem (by simp[Op.operands]) hd)
 case mapUpdate=>rcases hne with h | h <;> cases h
 case mapEntry=>rcases hne with h | h <;> cases h
 case call c =>
  obtain⟨cal,args,ts⟩:=c;split at h
  ·rename_i b hb;simp only at hb;subst hb
   have dry:∀ {b:Builtin},vY P b ⟨.builtin b,args,ts⟩ (args.toList.map (qJ env)) env ty ph=some (v,ph1)->ph1=ph∧∀ ph',vY P b ⟨.builtin b,args,ts⟩ (args.toList.map (qJ env)) env ty ph'=some (v,ph'):=fun h=>by
    unfold vY at h ⊢;split at h
    ·obtain⟨h1,h2⟩:=zU h;exact⟨h2,fun ph'=>by rw[h1];rfl⟩
    ·cases h
   unfold uQ at h;split at h
   ·rcases hne with h | h <;> cases h
   ·rcases hne with h | h <;> cases h
   ·split at h
    ·rename_i x hx
     obtain⟨a1,ha1,rfl⟩:∃ a1,args=#[a1]∧x=qJ env a1:=by
      cases hq:args.toList with
      | nil=>rw[hq] at hx;cases hx
      | cons a l =>
        rw[hq] at hx
        cases l with
        | nil =>
          simp only[zPB,zQ6,zPK,and_true] at hx
          exact ⟨a, by have e9:args=args.toList.toArray:=by simp
                       rw[e9,hq],hx.symm⟩
        | cons=>cases hx
     subst ha1
     cases hc:qZW P ts with
     | true =>
       rw[hc] at h;obtain⟨h1,h2⟩:=dry h;refine⟨h1,fun k' ph' hd=>?_⟩;unfold uQ;simp only[zPB,zQ6,hc,cond_true];exact h2 ph'
     | false =>
       rw[hc] at h;obtain⟨h1,h2⟩:=zU h;refine⟨h2,fun k' ph' hd=>?_⟩;unfold uQ;simp only[zPB,zQ6,hc,cond_false];rw[q7D h1 (mem (by simp[Op.operands,Call.operands]) hd)];rfl
    ·cases h
   ·obtain⟨h1,h2⟩:=dry h;exact⟨h1,fun k' ph' hd=>h2 ph'⟩
   ·obtain⟨h1,h2⟩:=dry h;exact⟨h1,fun k' ph' hd=>h2 ph'⟩
   ·cases h
  ·cases h
end Go.Idl
