/- Runs told by plain values, part two. Conditions: none. -/
import Derived.Test.YtdohendjiddokaaGreatDoorPur7
set_option linter.all false
namespace Go.Idl
variable [Gc]
variable {P:Program}{Z:Nat->Prop}{H:IH}{M:Nat->Option (Nat×PO)}{m:Nat->Nat}{ph:PHp}
variable {env:List PV}{zGN:Env}{k:Nat}{o:Oper}{ph':PHp}{y:PV}
theorem qMW {s n:Nat}{a:Option Addr}{len c:Nat}{vs:List Value}(h:jJ s n H (.slice a len c)=some vs)(hk:k<=n):jJ s k H (.slice a len c)=some (vs.take (k*s)):=by
 by_cases hk0:k=0
 ·subst hk0;simp[jJ,kL]
 ·unfold jJ at h ⊢;rw[if_neg (by omega)] at h;rw[if_neg hk0];unfold wZ at h ⊢
  cases a with
  | none=>simp only at h;split at h <;> first | omega | cases h
  | some a =>
    simp only at h ⊢;unfold IH.loads at h ⊢;split at h
    ·rename_i cc el fz hg;split at h
     ·cases h;have:k*s<=n*s:=zQ6 _ hk;rw[if_pos (by omega),zTE]
      congr 2;omega
     ·cases h
    ·cases h
theorem q02 {j:Nat}{ob:PO}(hl:qA j ph=some ob):own m (xO j ob ph)=own m ph:=by
 funext k
 unfold own;rw[qY];by_cases h:k=j
 ·subst h;rw[if_pos ⟨rfl,by rw[hl];rfl⟩,hl]
 ·rw[if_neg (fun h'=>h h'.1)]
theorem q0L {l:List PV}{i:Nat}:yI l i []=l:=by unfold yI;simp
theorem q15 {p:Nat->Bool}{ts:List TypeId}{base x:PV}{vb vx:Value}(hp:Hp P Z H (own m ph))(hbase:VR P Z H (own m ph) base vb)(hx:VR P Z H (own m ph) x vx)(h:qHS P ts base x ph=some (y,ph')) :
 Res P Z H m ph p y ph' (qD7 P ts.toArray [vb,vx] H):=by
 unfold qHS at h;split at h
 ·rename_i st xt;split at h
  ·rename_i el el2 he he2;split at h
   ·rename_i s hs;split at h
    ·rename_i mm new hnew;obtain⟨vs,a,c,rfl,hf,hr,hlen⟩:=qQ0 hp hx hnew
     have icp:∀ bs n cap,qD7 P #[st,xt] [.slice bs n cap,.slice a mm c] H=uL bs (Nat.min mm n) (vs.take (Nat.min mm n*(s+1))) H:=fun bs n cap=>by
      unfold qD7;have hs':szT P el=some (s+1):=hs;simp only[zS he,hs',kL,qMW hf (Nat.min_le_left mm n)]
     split at h
     ·rename_i j tt o n;split at h
      ·rename_i ob hl
       cases hc:(Nat.beq ob.el el&&(Nat.beq (tt*(s+1)) ob.cs.length&&(Nat.beq new.length (mm*(s+1))&&new.all aN))) with
       | false=>rw[hc] at h;cases h
       | true =>
         rw[hc] at h;cases h;simp only[zPY] at hc;obtain⟨c1,c2,c3,c4⟩:=hc;have e1:=zPZ c1;have e2:=zPZ c2;subst e1;have hv1:=hr.one c4;obtain⟨hO,hpos⟩:=wF hbase hl hs e2;rw[show ([st,xt]:List TypeId).toArray=#[st,xt] from rfl]
         have same:∀ s',(s'=some (.val (goInt (Nat.min mm n)) H))->new.take (Nat.min mm n*(s+1))=[]->Res P Z H m ph p (fvv (.int .i64 ((Nat.min mm n:Nat):Int))) (xO j { ob with cs:=yI ob.cs (o*(s+1)) (new.take (Nat.min mm n*(s+1))) } ph) s':=fun s' hs' h0=>by
          rw[h0,q0L];have e:own m (xO j { ob with cs:=ob.cs } ph)=own m ph:=q02 hl;refine⟨goInt (Nat.min mm n),H,Z,m,hs',?_,jR rfl,?_,?_⟩
          ·rw[e];exact hp
          ·rw[e];exact .refl _ _ _
          ·rw[e];exact .refl _ _
         rcases hO with ⟨g1,rfl,rfl,rfl,rfl⟩ | ⟨g1,g2,g3,rfl⟩
         ·rw[icp];exact same _ rfl (by simp)
         ·have hre:=dJ e2 hpos g1;obtain⟨w1,w2,w3,ws,q1,q2,q3⟩:=hp.real hl hre (kF hs);rw[icp];by_cases h0:(vs.take (Nat.min mm n*(s+1)))=[]
          ·rw[h0];refine same _ rfl ?_;have:=(hr.take (Nat.min mm n*(s+1))).len;rw[h0] at this;exact zQ9.1 this
          ·have hle:(o+n)*(s+1)<=tt*(s+1):=zQ6 _ g2;rw[zSJ] at hle;have hmn:Nat.min mm n*(s+1)<=n*(s+1):=zQ6 _ (Nat.min_le_right mm n);have hlt:(new.take (Nat.min mm n*(s+1))).length<=n*(s+1):=by simp only[zQ3];omega
           have h1:(vs.take (Nat.min mm n*(s+1))).all oneCell=true:=by
            rw[zP1] at hv1 ⊢;exact fun x hx=>hv1 x (zSL hx)
           obtain⟨r1,r2,r3⟩:=hp.put (cs:=yI ob.cs (o*(s+1)) (new.take (Nat.min mm n*(s+1)))) hl hre (kF hs) (bW (by omega)) (q2.over (hr.take (Nat.min mm n*(s+1))) (o*(s+1))) (qAY q3 h1);refine⟨goInt (Nat.min mm n),_,Z,m,?_,r1,jR rfl,r2,r3 _⟩;unfold uL
           have hne:(vs.take (Nat.min mm n*(s+1))).isEmpty=false:=by
            cases hq:vs.take (Nat.min mm n*(s+1)) with
            | nil=>exact absurd hq h0
            | cons=>rfl
           simp only[hne,zRY,if_false]
           have hst:H.stores (m j) (o*(s+1)) (vs.take (Nat.min mm n*(s+1)))=some (H.put (m j) (.cells (overwrite ws (o*(s+1)) (vs.take (Nat.min mm n*(s+1)))).toArray ob.el (cond ob.gr zJ (0,0)))):=by
            unfold IH.stores;rw[q1];simp only[];rw[if_pos];simp only[qX6,h1,w2,decide_true,zSC,decide_eq_true_eq,zSM];rw[<-q2.len,<- (hr.take (Nat.min mm n*(s+1))).len];omega
           rw[hst]
      ·cases h
     ·cases h;obtain⟨ab,cb,rfl⟩:=qV4 hbase;have h0:Nat.min mm 0=0:=zUB mm;refine .same ?_ hp (jR (v:=.int .i64 0) rfl);rw[show ([st,xt]:List TypeId).toArray=#[st,xt] from rfl,icp,h0];cases ab <;> simp[uL,goInt]
     ·cases h;have:=yL hbase rfl;subst this;have h0:Nat.min mm 0=0:=zUB mm;refine .same ?_ hp (jR (v:=.int .i64 0) rfl);rw[show ([st,xt]:List TypeId).toArray=#[st,xt] from rfl,icp,h0];simp[uL,goInt]
     ·cases h
    ·cases h
   ·cases h
  ·cases h
 ·cases h
theorem zU {o:Option PV}(h:pp1 ph o=some (y,ph')):o=some y∧ph'=ph:=by
 unfold pp1 at h;split at h
 ·cases h;exact⟨rfl,rfl⟩
 ·cases h
theorem VRL.of {env:List PV}{zGN:Env}(he:VRL P Z H M env zGN):∀ (l:List Operand),VRL P Z H M (l.map (qJ env)) (l.map zGN.val)
 | []=>.nil
 | x::l=>.cons (qK he x) (VRL.of he l)
theorem qIJ (h:yB k env=true)(x:Operand):noK k (qJ env x)=true:=by
 cases x with
 | tmp t =>
   show noK k ((zG env t).getD .unk)=true;rw[qF]
   cases he:env[t]? with
   | none=>rfl
   | some y=>exact wI h he
 | const v =>
   show noK k (ofC v)=true;unfold ofC q65;split
   ·rename_i cs;cases jL okC cs.toList with
    | true=>exact rP k _
    | false=>rfl
   ·rename_i cs;cases jL okC cs.toList with
    | true=>exact rP k _
    | false=>rfl
   ·cases okC v <;> rfl
 | global g=>rfl
 | func g=>rfl
theorem qRO {k:Nat}{env:List PV}(h:yB k env=true):∀ (l:List (Nat×Operand)),yB k ((l.map fun p=>(p.1,qJ env p.2)).map (·.2))=true
 | []=>rfl
 | p::l=>by simp only[zQG,yB,qIJ h,qRO h l,zQU]
theorem Res.up {p q:Nat->Bool}{v:PV}{s:Option zGU}(h:Res P Z H m ph p v ph' s)(hq:∀ j,p j=true->q j=true):Res P Z H m ph q v ph' s:=by
 obtain⟨u,H',Z',m',h1,h2,h3,h4,h5⟩:=h
 exact⟨u,H',Z',m',h1,h2,h3,h4,fun j b ob hM=>by
  rcases h5 j b ob hM with h | h | h
  ·exact .inl h
  ·exact .inr (.inl h)
  ·exact .inr (.inr (hq j h))⟩
def nw (o:Op)(k:Nat):Nat->Bool:=fun j=>needs o&&(j==k)
theorem q8P (hp:Hp P Z H (own m ph))(hb:H.base<=H.size)(he:VRL P Z H (own m ph) env zGN)(hn:needs o.op=true->yB k env=true∧aC k ph=true)(h:sO P o env k ph=some (y,ph')) :
 Res P Z H m ph (nw o.op k) y ph' (iop P o zGN H):=by
 obtain⟨d,op,ty,pos,aft,g⟩:=o;have fin:∀ {x:PV} {s:Option zGU},(∃ u,s=some (.val u H)∧VR P Z H (own m ph) x u)->Res P Z H m ph (nw op k) x ph s:=fun ⟨u,h1,h2⟩=>.same h1 hp h2
 have zJP:∀ {x:PV} {s:Option Value},(∃ u,s=some u∧VR P Z H (own m ph) x u)->Res P Z H m ph (nw op k) x ph (zGU.ofO H s):=fun ⟨u,h1,h2⟩=>.same (by rw[h1];rfl) hp h2
 cases op <;> simp only[sO] at h <;> (try (cases h;done)) <;> simp only at hn fin zJP
 case move x=>cases h;exact fin ⟨_,rfl,qK he x⟩
 case assign x=>cases h;exact fin ⟨_,rfl,qK he x⟩
 case pick c a b =>
  split at h
  ·rename_i t ht;cases h;have hc:=qK he c;rw[ht] at hc;have hv:=yL hc rfl;refine fin ⟨cond t (zGN.val a) (zGN.val b),?_,?_⟩
   ·show qOO (zGN.val c) _ _ H=_;rw[hv];rfl
   ·cases t
    ·exact qK he b
    ·exact qK he a
  ·cases h
 case alloc el =>
  obtain⟨n1,n2⟩:=hn rfl;exact (qXV hp hb n2 h).up fun j hj=>hj
 case box el x =>
  obtain⟨n1,n2⟩:=hn rfl;exact (q59 hp hb n2 (qK he x) (qIJ n1 x) h).up fun j hj=>hj
 case build t ps =>
  obtain⟨h1,rfl⟩:=zU h;exact zJP (qWX (qUL he _) h1)
 case buildSlice t len ps =>
  obtain⟨n1,n2⟩:=hn rfl;exact (qD0 hp hb n2 (qUL he _) (qRO n1 _) h).up fun j hj=>hj
 case load t a =>
  obtain⟨h1,rfl⟩:=zU h;exact zJP (qQB hp (qK he a) h1)
 case store t a x =>
  unfold ppS at h;split at h
  ·rename_i ph1 hs;cases h;exact qY5 hp (qK he a) (qK he x) hs
  ·cases h
 case nilCheck x =>
  obtain⟨h1,rfl⟩:=zU h;obtain⟨h2,rfl⟩:=qI8 (qK he x) h1;exact fin ⟨_,h2,qK he x⟩
 case binOp op t x z t2 =>
  obtain⟨h1,rfl⟩:=zU h;exact fin (q88 (qK he x) (qK he z) h1)
 case unOp op t x =>
  obtain⟨h1,rfl⟩:=zU h;exact fin (qPF (qK he x) rfl h1)
 case convert s t x =>
  cases hpt:qSY (qJ env x) with
  | true=>rw[hpt] at h;cases h
  | false =>
  rw[hpt] at h;obtain⟨h1,rfl⟩:=zU h;have hx:=qK he x;obtain⟨u,h2,h3⟩:=qPF (o:=⟨d,.convert s t x,ty,pos,aft,g⟩) (env:=zGN) hx rfl h1;refine fin ⟨u,?_,h3⟩;show fQ P _ s t (zGN.val x) zGN H=_;unfold fQ;split
  ·rename_i a ha;exfalso;unfold bU at h1;split at h1
   ·rename_i b hb';have hv:=yL hx hb';rw[ha] at hv;subst hv;unfold pl at hb';split at hb'
    ·rename_i x0 hx0;cases hb';rw[hx0] at hpt;cases hpt
    ·split at hb' <;> cases hb'
    ·cases hb'
   ·cases h1
  ·exact h2
 case makeFunc fn first cap =>
  obtain⟨h1,rfl⟩:=zU h;exact fin (qK0 (by simpa using VRL.of he first.toList) (by simpa using VRL.of he cap.toList) h1)
 case makeSlice t l c =>
  obtain⟨n1,n2⟩:=hn rfl;exact (qGR hp hb n2 (qK he l) (qK he c) h).up fun j hj=>hj
 case slice t x lo hi mx =>
  cases mx with
  | some mx=>cases h
  | none =>
    simp only at h;split at h
    ·rename_i s hs;have hx:=qK he x;rw[hs] at hx;have hv:=yL hx rfl;split at h
     ·rename_i vs hvs;obtain⟨h1,rfl⟩:=zU h
      have zKB:∀ (w:Option Operand),(∀ a,w=some a->a∈lo.toList++hi.toList)->(w.map fun a=>(Operand.const ((pl (qJ env a)).getD undef))).map (Env.val [])=w.map zGN.val:=fun w hw=>by
       cases w with
       | none=>rfl
       | some a =>
         obtain⟨b,hb'⟩:=qH7 hvs (qJ env a) (zQR.2 ⟨a,hw a rfl,rfl⟩);simp only[zQC,hb',zR5];rw[yL (qK he a) hb'];rfl
      have hlo:=zKB lo (fun a ha=>by subst ha;simp);have hhi:=zKB hi (fun a ha=>by subst ha;simp)
      obtain⟨u,h2,h3⟩:=qU6 (M:=own m _) (Z:=Z) (H:=H) (o:=⟨d,.slice t x lo hi none,ty,pos,aft,g⟩) (env:=zGN) (by
       have hex:execOp zGN.val ⟨d,.slice t x lo hi none,ty,pos,aft,g⟩=execOp (Env.val []) (cop (.slice t (.const (.string s)) (lo.map fun a=>.const ((pl (qJ env a)).getD undef)) (hi.map fun a=>.const ((pl (qJ env a)).getD undef)) none)):=by
        show (do let x <- Instr.sliceAt t (zGN.val x) (lo.map zGN.val) (hi.map zGN.val) none;pure (Next.value x))=(do let x <- Instr.sliceAt t (.string s) ((lo.map fun a=>(Operand.const ((pl (qJ env a)).getD undef))).map (Env.val [])) ((hi.map fun a=>(Operand.const ((pl (qJ env a)).getD undef))).map (Env.val [])) none;pure (Next.value x));rw[hlo,hhi,hv]
       have hpl:jA zGN.val (Op.slice t x lo hi none).operands.toList=jA (Env.val []) (cop (.slice t (.const (.string s)) (lo.map fun a=>.const ((pl (qJ env a)).getD undef)) (hi.map fun a=>.const ((pl (qJ env a)).getD undef)) none)).op.operands.toList:=by
        rw[xI,xI];cases lo <;> cases hi <;> simp_all [Op.operands,cop,Env.val]
       unfold jE;rw[hex]
       simp only[hpl]) h1
      refine fin ⟨u,?_,h3⟩;show uT P _ t (zGN.val x) _ _ _ zGN H=_;rw[hv];exact h2
     ·cases h
    ·rename_i v hne;obtain⟨h1,rfl⟩:=zU h;obtain⟨u,h2,h3⟩:=qTF hp (qK he x) (q94.of he lo) (q94.of he hi) h1;exact fin ⟨u,qOR h2,h3⟩
 case fieldAddr t x i =>
  obtain⟨h1,rfl⟩:=zU h;exact zJP (qHI (qK he x) h1)
 case indexAddr t x ix =>
  obtain⟨h1,rfl⟩:=zU h;exact zJP (qHL hp (qK he x) (qK he ix) h1)
 case index t x ix =>
  split at h
  ·rename_i s j hs hj;obtain⟨h1,rfl⟩:=zU h;have hx:=qK he x;rw[hs] at hx;have hv:=yL hx rfl;have hv2:=yL (qK he ix) hj;obtain⟨u,h2,h3⟩:=qU6 (M:=own m _) (Z:=Z) (H:=H) (o:=⟨d,.index t x ix,ty,pos,aft,g⟩) (env:=zGN) (by rw[<-hv,<-hv2];rfl) h1;refine fin ⟨u,?_,h3⟩;show uQ P _ t (zGN.val x) _ zGN H=_;rw[hv];exact h2
  ·obtain⟨h1,rfl⟩:=zU h;obtain⟨u,h2,h3⟩:=qXI (qK he x) (qK he ix) h1;exact fin ⟨u,qMN h2,h3⟩
 case makeMap t r =>
  obtain⟨n1,n2⟩:=hn rfl
  cases r with
  | some _=>cases h
  | none=>exact (qMO hp hb n2 h).up fun j hj=>hj
 case lookup t x kx ok =>
  obtain⟨h1,rfl⟩:=zU h;exact zJP (qTU hp (qK he x) (qK he kx) h1)
 case mapUpdate t mv kx x =>
  unfold ppS at h;split at h
  ·rename_i ph1 hs;cases h;exact qGT hp (qK he mv) (qK he kx) (qK he x) hs
  ·cases h
 case mapEntry t mv kx=>exact qLQ hp (qK he mv) (qK he kx) h
 case extract t i =>
  obtain⟨h1,rfl⟩:=zU h;exact fin (qN9 (qK he t) h1)
 case call c =>
  obtain⟨cal,args,ts⟩:=c;split at h
  ·rename_i b hbq;simp only at hbq;subst hbq;have two:∀ x z,args.toList=[x,z]->jA zGN.val args.toList=[zGN.val x,zGN.val z]:=fun x z e=>by rw[e];rfl
   unfold uM at h;split at h
   ·-- append
    split at h
    ·rename_i x z hxz;obtain⟨n1,n2⟩:=hn rfl
     obtain⟨a1,a2,ha,rfl,rfl⟩:∃ a1 a2,args.toList=[a1,a2]∧x=qJ env a1∧z=qJ env a2:=by
      cases hq:args.toList with
      | nil=>rw[hq] at hxz;cases hxz
      | cons a l =>
        rw[hq] at hxz
        cases l with
        | nil=>cases hxz
        | cons a2 l =>
          cases l with
          | nil=>simp only[zQG,zSA,zQQ,and_true] at hxz;exact⟨a,a2,rfl,hxz.1.symm,hxz.2.symm⟩
          | cons=>cases hxz
     have hr:=qTL hp hb n2 (qK he a1) (qK he a2) (qIJ n1 a2) (qIJ n1 a1) h;obtain⟨u,H',Z',m',e1,e2,e3,e4,e5⟩:=hr;refine Res.up (p:=fun j=>j==k) ⟨u,H',Z',m',?_,e2,e3,e4,e5⟩ fun j hj=>hj
     refine aS ?_;rw[two _ _ ha];rw[show ts.toList.toArray=ts from by simp] at e1;exact e1
    ·cases h
   ·-- copy
    split at h
    ·rename_i x z hxz
     obtain⟨a1,a2,ha,rfl,rfl⟩:∃ a1 a2,args.toList=[a1,a2]∧x=qJ env a1∧z=qJ env a2:=by
      cases hq:args.toList with
      | nil=>rw[hq] at hxz;cases hxz
      | cons a l =>
        rw[hq] at hxz
        cases l with
        | nil=>cases hxz
        | cons a2 l =>
          cases l with
          | nil=>simp only[zQG,zSA,zQQ,and_true] at hxz;exact⟨a,a2,rfl,hxz.1.symm,hxz.2.symm⟩
          | cons=>cases hxz
     have hr:=q15 (p:=nw (.call ⟨.builtin .copy,args,ts⟩) k) hp (qK he a1) (qK he a2) h;obtain⟨u,H',Z',m',e1,e2,e3,e4,e5⟩:=hr;refine⟨u,H',Z',m',?_,e2,e3,e4,e5⟩;refine aS ?_;rw[two _ _ ha];rw[show ts.toList.toArray=ts from by simp] at e1;exact e1
    ·cases h
   ·-- len
    split at h
    ·rename_i x hx0
     obtain⟨a1,ha,rfl⟩:∃ a1,args=#[a1]∧x=qJ env a1:=by
      cases hq:args.toList with
      | nil=>rw[hq] at hx0;cases hx0
      | cons a l =>
        rw[hq] at hx0
        cases l with
        | nil =>
          simp only[zQG,zSA,zQQ,and_true] at hx0
          exact ⟨a, by have e9:args=args.toList.toArray:=by simp
                       rw[e9,hq],hx0.symm⟩
        | cons=>cases hx0
     subst ha
     cases hst:q0A P ts with
     | true =>
       rw[hst] at h
       have hnone:yG P .len ⟨.builtin .len,#[a1],ts⟩ (jA zGN.val #[a1].toList) H=none:=by
        show pM P ts [zGN.val a1] H=none;unfold q0A at hst;split at hst
        ·rename_i hu;unfold pM;rw[hu]
        ·cases hst
       obtain⟨e9,hr⟩:=qBL (d:=d) (pos:=pos) (aft:=aft) (g:=g) he hnone h;subst e9;exact fin hr
     | false =>
       rw[hst] at h;obtain⟨h1,rfl⟩:=zU h;exact fin (q0T hp (qK he a1) (fun hq=>q8G (qK he a1) hq) (fun w hw=>aS hw) h1)
    ·cases h
   ·obtain⟨e9,hr⟩:=qBL (d:=d) (pos:=pos) (aft:=aft) (g:=g) he rfl h;subst e9;exact fin hr
   ·obtain⟨e9,hr⟩:=qBL (d:=d) (pos:=pos) (aft:=aft) (g:=g) he rfl h;subst e9;exact fin hr
   ·cases h
  ·cases h
theorem q77 (hp:Hp P Z H (own m ph))(hb:H.base<=H.size)(he:VRL P Z H (own m ph) env zGN)(hn:needs o.op=true->yB k env=true∧aC k ph=true)(h:q5M P o env k ph=some (y,ph')) :
 Res P Z H m ph (nw o.op k) y ph' (iop P o zGN H):=by
 unfold q5M at h;split at h
 ·rename_i it ho;obtain⟨h1,rfl⟩:=zU h;obtain⟨u,q1,q2⟩:=qXB hp (qK he it) h1;refine .same ?_ hp q2;unfold iop;rw[ho];show zGU.ofO H (qEG (zGN.val it) H)=_;rw[q1];rfl
 ·exact q8P hp hb he hn h
end Go.Idl
namespace Go.Idl
variable [Gc]
variable {P:Program}{Z:Nat->Prop}{H:IH}{M:Nat->Option (Nat×PO)}{m:Nat->Nat}{ph:PHp}
variable {Z':Nat->Prop}{k:Nat}{ph':PHp}{v:Value}{vs:List Value}{xs:List PV}
def qAF (f:PHp->PV->Option (FV×PHp)):List PV->PHp->Option (List FV×PHp)
 | [],ph=>some ([],ph)
 | x::l,ph=>match f ph x with
   | some (y,ph1)=>(match qAF f l ph1 with
     | some (ys,ph2)=>some (y::ys,ph2)
     | none=>none)
   | none=>none
noncomputable def fz1 (P:Program):Nat->PHp->PV->Option (FV×PHp)
 | 0,ph,.f x=>some (x,ph)
 | 0,_,_=>none
 | n+1,ph,.f x=>some (x,ph)
 | n+1,ph,.own k t o c=>(match qA k ph with
   | some ob=>(match szT P ob.el with
     | some s=>cond (Nat.beq (t*s) ob.cs.length) (match qAF (fz1 P n) ((ob.cs.drop (o*s)).take (c*s)) (o8 k ph) with
       | some (cs,ph')=>some (.l ob.el c cs,ph')
       | none=>none) none
     | none=>none)
   | none=>none)
 | n+1,ph,.asl el k t=>(match qA k ph with
   | some ob=>cond (Nat.beq t ob.cs.length&&(!spec P ob.el&&!ob.gr)) (match qAF (fz1 P n) ob.cs (o8 k ph) with
      | some (cs,ph')=>some (.l el t cs,ph')
      | none=>none) none
   | none=>none)
 | n+1,_,_=>none
noncomputable def fzP (P:Program)(ph:PHp)(x:PV):Option (PV×PHp):=match x with
 | .agg cs=>(match qAF (fz1 P 4) cs ph with
   | some (ys,ph')=>some (.agg (ys.map .f),ph')
   | none=>none)
 | x=>(match fz1 P 4 ph x with
   | some (y,ph')=>some (.f y,ph')
   | none=>none)
noncomputable def fzA (P:Program):List PV->PHp->Option (List PV×PHp)
 | [],ph=>some ([],ph)
 | x::l,ph=>match fzP P ph x with
   | some (y,ph1)=>(match fzA P l ph1 with
     | some (ys,ph2)=>some (y::ys,ph2)
     | none=>none)
   | none=>none
structure Fz (P:Program) (Z:Nat->Prop) (H:IH) (m:Nat->Nat) (ph:PHp) (Z':Nat->Prop) (ph':PHp):Prop where
 hp:Hp P Z' H (own m ph')
 zle:∀ b,Z b->Z' b
 sub:∀ k ob,qA k ph'=some ob->qA k ph=some ob
 zHP:∀ b,Z' b->Z b∨dK (own m ph) b
theorem Fz.refl (h:Hp P Z H (own m ph)):Fz P Z H m ph Z ph:=⟨h,fun _ h=>h,fun _ _ h=>h,fun _ h=>.inl h⟩
theorem Fz.zI4 (a:Fz P Z H m ph Z' ph'){r:Nat×PO}(h:own m ph' k=some r):own m ph k=some r:=by
 obtain⟨b,ob⟩:=r;obtain⟨h1,rfl⟩:=vX h;exact qN (a.sub k ob h1)
theorem Fz.trans {Z1 Z2:Nat->Prop}{ph1 ph2:PHp}(a:Fz P Z H m ph Z1 ph1)(b:Fz P Z1 H m ph1 Z2 ph2):Fz P Z H m ph Z2 ph2 :=
 ⟨b.hp,fun x h=>b.zle x (a.zle x h),fun k ob h=>a.sub k ob (b.sub k ob h),fun x h=>by
   rcases b.zHP x h with h | ⟨k,ob,h1,h2⟩
   ·exact a.zHP x h
   ·exact .inr ⟨k,ob,a.zI4 h1,h2⟩⟩
theorem Fz.kr (a:Fz P Z H m ph Z' ph')(p:Nat->Bool):KR p (own m ph) (own m ph'):=fun k b ob h=>.inl ⟨ob,a.zI4 h,rfl,rfl,rfl⟩
theorem Fz.step (a:Fz P Z H m ph Z' ph'):Step Z H (own m ph) Z' H (own m ph') :=
 ⟨zP0 _,rfl,a.zle,fun _ _ _=>rfl,fun b h _=>a.zHP b h,fun b ⟨k,ob,h1,h2⟩ _=>⟨k,ob,a.zI4 h1,h2⟩⟩
theorem Fz.vrl (a:Fz P Z H m ph Z' ph')(h:VRL P Z H (Go.Idl.own m ph) xs vs):VRL P Z' H (Go.Idl.own m ph') xs vs :=
 h.mono (p:=fun _=>false) a.zle (zP0 _) (fun _ _ _=>rfl) (a.kr _) fun j hj=>by cases hj
theorem Fz.del (h:Hp P Z H (own m ph)){ob:PO}(hl:qA k ph=some ob)(hr:real ob):Fz P Z H m ph (fun b=>Z b∨b=m k) (o8 k ph):=by
 have hsub:∀ j o,qA j (o8 k ph)=some o->j≠k∧qA j ph=some o:=fun j o h=>by
  rw[xA] at h;split at h
  ·cases h
  ·rename_i hj;exact⟨hj,h⟩
 have hown:∀ j b o,own m (o8 k ph) j=some (b,o)->j≠k∧own m ph j=some (b,o):=fun j b o h=>by
  obtain⟨h1,rfl⟩:=vX h;obtain⟨h2,h3⟩:=hsub j o h1;exact⟨h2,qN h3⟩
 obtain⟨w1,w2,w3⟩:=h.zLJ hl hr;refine⟨⟨?_,?_,?_,h.gl.mono h.zlt (fun _ h=>.inl h) fun _ _ _=>rfl⟩,fun b h=>.inl h,fun j o h=>(hsub j o h).2,?_⟩
 ·rintro b (hb | rfl)
  ·exact h.zlt b hb
  ·exact w1
 ·intro j b o hj;obtain⟨h1,h2⟩:=hown j b o hj
  rcases h.obj j b o h2 with h3 | ⟨a1,a2,a3,a4⟩
  ·exact .inl h3
  ·by_cases hro:o.gr=true∧o.cs=[]
   ·exact .inl hro
   ·refine .inr ⟨a1,a2,?_,a4.mono rfl fun _ a5=>a5.mono (p:=fun _=>false) (fun _ h=>.inl h) (zP0 _) (fun _ _ _=>rfl) (fun i b' o' hi=>.inl ⟨o',(hown i b' o' hi).2,rfl,rfl,rfl⟩) (fun j hj=>by cases hj)⟩;rintro (hz | rfl)
    ·exact a3 hz
    ·exact h.inj j k _ _ o ob h2 (qN hl) hro hr h1 rfl
 ·intro j j' b b' o o' h1 h2 r1 r2 hne;exact h.inj j j' b b' o o' (hown j b o h1).2 (hown j' b' o' h2).2 r1 r2 hne
 ·rintro b (hz | rfl)
  ·exact .inl hz
  ·exact .inr ⟨k,ob,qN hl,hr⟩
theorem Fz.drop (h:Hp P Z H (own m ph))(hs:∀ k ob,qA k ph'=some ob->qA k ph=some ob):Fz P Z H m ph Z ph':=by
 have hown:∀ j b o,own m ph' j=some (b,o)->own m ph j=some (b,o):=fun j b o h=>by
  obtain⟨h1,rfl⟩:=vX h;exact qN (hs j o h1)
 refine⟨⟨h.zlt,?_,?_,h.gl⟩,fun _ h=>h,hs,fun _ h=>.inl h⟩
 ·intro j b o hj
  rcases h.obj j b o (hown j b o hj) with h3 | ⟨a1,a2,a3,a4⟩
  ·exact .inl h3
  ·exact .inr ⟨a1,a2,a3,a4.mono rfl fun _ a5=>a5.mono (p:=fun _=>false) (fun _ h=>h) (zP0 _) (fun _ _ _=>rfl) (fun i b' o' hi=>.inl ⟨o',hown i b' o' hi,rfl,rfl,rfl⟩) (fun j hj=>by cases hj)⟩
 ·intro j j' b b' o o' h1 h2 r1 r2 hne;exact h.inj j j' b b' o o' (hown j b o h1) (hown j' b' o' h2) r1 r2 hne
structure FRL (Z:Nat->Prop) (H:IH) (xs:List FV) (vs:List Value):Prop where
 len:xs.length=vs.length
 val:∀ (i:Nat) x v,xs[i]?=some x->vs[i]?=some v->FR Z H x v
theorem FRL.cons {x:FV}{xs:List FV}(h:FR Z H x v)(t:FRL Z H xs vs):FRL Z H (x::xs) (v::vs) :=
 ⟨by simp[t.len],fun i y u h1 h2=>by
   cases i with
   | zero=>simp at h1 h2;subst h1 h2;exact h
   | succ i=>exact t.val i y u (by simpa using h1) (by simpa using h2)⟩
theorem FRL.map {xs:List FV}(h:FRL Z H xs vs):VRL P Z H M (xs.map .f) vs:=qW7 h.len h.val
theorem qC5 {f:PHp->PV->Option (FV×PHp)}(hf:∀ {Z:Nat->Prop} {ph:PHp} {x:PV} {y:FV} {ph':PHp} {v:Value},Hp P Z H (own m ph)->VR P Z H (own m ph) x v->f ph x=some (y,ph')->∃ Z',Fz P Z H m ph Z' ph'∧FR Z' H y v) :
 ∀ {xs:List PV} {vs:List Value} {Z:Nat->Prop} {ph:PHp} {ys:List FV} {ph':PHp},Hp P Z H (own m ph)->VRL P Z H (own m ph) xs vs->qAF f xs ph=some (ys,ph')->∃ Z',Fz P Z H m ph Z' ph'∧FRL Z' H ys vs
 | [],vs,Z,ph,ys,ph',hp,hx,h=>by
   simp only[qAF,zP7,Prod.mk.injEq] at h;obtain⟨rfl,rfl⟩:=h;rw[hx.zGT];exact⟨Z,.refl hp,rfl,fun i x v h=>by simp at h⟩
 | x::xs,_,Z,ph,ys,ph',hp,hx,h=>by
   obtain⟨v,vs,rfl,h1,h2⟩:=hx.zGP;unfold qAF at h;split at h
   ·rename_i y ph1 hy;split at h
    ·rename_i ys' ph2 hys;cases h;obtain⟨Z1,c1,r1⟩:=hf hp h1 hy;obtain⟨Z2,c2,r2⟩:=qC5 hf c1.hp (c1.vrl h2) hys;exact⟨Z2,c1.trans c2,.cons (r1.mono c2.zle (zP0 _) fun _ _ _=>rfl) r2⟩
    ·cases h
   ·cases h
theorem qJ5:∀ (n:Nat) {Z:Nat->Prop} {ph:PHp} {x:PV} {y:FV} {ph':PHp} {v:Value},Hp P Z H (own m ph)->VR P Z H (own m ph) x v->fz1 P n ph x=some (y,ph')->∃ Z',Fz P Z H m ph Z' ph'∧FR Z' H y v
 | n,Z,ph,.f x,y,ph',v,hp,hx,h=>by
   have:some (x,ph)=some (y,ph'):=by cases n <;> exact h
   cases this
   cases hx with
   | f hx=>exact⟨Z,.refl hp,hx⟩
 | 0,Z,ph,.agg _,y,ph',v,hp,hx,h=>by cases h
 | 0,Z,ph,.tup _,y,ph',v,hp,hx,h=>by cases h
 | 0,Z,ph,.own _ _ _ _,y,ph',v,hp,hx,h=>by cases h
 | 0,Z,ph,.ref _ _ _,y,ph',v,hp,hx,h=>by cases h
 | 0,Z,ph,.lp _ _,y,ph',v,hp,hx,h=>by cases h
 | 0,Z,ph,.fn _ _ _,y,ph',v,hp,hx,h=>by cases h
 | 0,Z,ph,.unk,y,ph',v,hp,hx,h=>by cases h
 | 0,Z,ph,.yl _,y,ph',v,hp,hx,h=>by cases h
 | 0,Z,ph,.bq,y,ph',v,hp,hx,h=>by cases h
 | 0,Z,ph,.mp _,y,ph',v,hp,hx,h=>by cases h
 | 0,Z,ph,.asl _ _ _,y,ph',v,hp,hx,h=>by cases h
 | n+1,Z,ph,.agg _,y,ph',v,hp,hx,h=>by cases h
 | n+1,Z,ph,.tup _,y,ph',v,hp,hx,h=>by cases h
 | n+1,Z,ph,.ref _ _ _,y,ph',v,hp,hx,h=>by cases h
 | n+1,Z,ph,.lp _ _,y,ph',v,hp,hx,h=>by cases h
 | n+1,Z,ph,.fn _ _ _,y,ph',v,hp,hx,h=>by cases h
 | n+1,Z,ph,.unk,y,ph',v,hp,hx,h=>by cases h
 | n+1,Z,ph,.yl _,y,ph',v,hp,hx,h=>by cases h
 | n+1,Z,ph,.bq,y,ph',v,hp,hx,h=>by cases h
 | n+1,Z,ph,.mp _,y,ph',v,hp,hx,h=>by cases h
 | n+1,Z,ph,.own k t o c,y,ph',v,hp,hx,h=>by
   unfold fz1 at h;split at h
   ·rename_i ob hl;split at h
    ·rename_i s hs
     cases hc:Nat.beq (t*s) ob.cs.length with
     | false=>rw[hc] at h;cases h
     | true =>
       rw[hc] at h;simp only[cond_true] at h;have he:=zPZ hc;split at h
       ·rename_i cs ph1 hf;cases h;obtain⟨hO,h0⟩:=wF hx hl hs he
        rcases hO with ⟨g1,rfl,rfl,rfl,rfl⟩ | ⟨g1,g2,g3,rfl⟩
        ·have hc0:ob.cs=[]:=zQ9.1 (by omega);rw[hc0] at hf;have hf':qAF (fz1 P n) [] (o8 k ph)=some (cs,ph'):=by simpa using hf
         have:some (([]:List FV),o8 k ph)=some (cs,ph'):=hf';cases this;refine⟨Z,.drop hp fun j o hj=>?_,.nil (fun _=>rfl) (fun x h=>by cases h)⟩;rw[xA] at hj;split at hj
         ·cases hj
         ·exact hj
        ·have hre:=dJ he h0 g1;obtain⟨w1,w2,w3,vs,q1,q2,q3⟩:=hp.real hl hre (kF hs);have hcut:=Fz.del hp hl hre;have hle:(o+c)*s<=t*s:=zQ6 _ g2;rw[zSJ] at hle;obtain⟨Z2,c2,r2⟩:=qC5 (fun a b c=>qJ5 n a b c) hcut.hp (hcut.vrl ((q2.drop (o*s)).take (c*s))) hf;refine⟨Z2,hcut.trans c2,.l (vs:=(vs.drop (o*s)).take (c*s)) (c2.zle _ (.inr rfl)) w1 (by omega) (by cases ob.gr <;> simp) ?_ r2.val⟩
         have hcl:cs.length=c*s:=by
          rw[r2.len];simp only[zQ3,zSP];rw[<-q2.len];omega
         rw[hcl];exact xU q1 (by rw[<-q2.len];omega) rfl
       ·cases h
    ·cases h
   ·cases h
 | n+1,Z,ph,.asl el k t,y,ph',v,hp,hx,h=>by
   unfold fz1 at h;split at h
   ·rename_i ob hl
    cases hc:(Nat.beq t ob.cs.length&&(!spec P ob.el&&!ob.gr)) with
    | false=>rw[hc] at h;cases h
    | true =>
      rw[hc] at h;simp only[cond_true] at h;simp only[zPY,zQX] at hc;obtain⟨c1,c2,c3⟩:=hc;have he:=zPZ c1;split at h
      ·rename_i cs ph1 hf;cases h;have hre:real ob:=fun q=>by rw[c3] at q;cases q.1
       obtain⟨w1,w2,w3,vs,q1,q2,q3⟩:=hp.real hl hre c2;have hcut:=Fz.del hp hl hre;obtain⟨Z2,c4,r2⟩:=qC5 (fun a b c=>qJ5 n a b c) hcut.hp (hcut.vrl q2) hf
       cases hx with
       | asl _ hh =>
         obtain⟨_,hv⟩:=hh _ _ (qN hl);have:=hv he;subst this;refine⟨Z2,hcut.trans c4,.l (vs:=vs) (c4.zle _ (.inr rfl)) w1 (zP0 _) (.inl rfl) ?_ r2.val⟩;exact xU q1 (by rw[r2.len,zQI];exact zP0 _) (by rw[r2.len,zRI];exact zQT (zP0 _))
      ·cases h
   ·cases h
theorem qJI {x y:PV}(hp:Hp P Z H (own m ph))(hx:VR P Z H (own m ph) x v)(h:fzP P ph x=some (y,ph')):∃ Z',Fz P Z H m ph Z' ph'∧VR P Z' H (fun _=>none) y v:=by
 unfold fzP at h;split at h
 ·rename_i cs;split at h
  ·rename_i ys ph1 hf;cases h
   cases hx with
   | agg hl hc =>
     rename_i vs;obtain⟨Z',c1,r1⟩:=qC5 (vs:=vs.toList) (fun a b c=>qJ5 4 a b c) hp ⟨by simpa using hl,fun i x v a b=>hc i x v a (by simpa using b)⟩ hf;have:=(r1.map (P:=P) (M:=fun _=>none)).toA;exact⟨Z',c1,by simpa using this⟩
  ·cases h
 ·split at h
  ·rename_i y' ph1 hf;cases h;obtain⟨Z',c1,r1⟩:=qJ5 4 hp hx hf;exact⟨Z',c1,.f r1⟩
  ·cases h
theorem VRL.none {H':IH}(h:VRL P Z H (fun _=>none) xs vs)(hz:∀ b,Z b->Z' b)(hs:H.size<=H'.size)(hg:∀ b,Z b->b < H.size->H'.get b=H.get b){M:Nat->Option (Nat×PO)}(hn:∀ k,M k=none):VRL P Z' H' M xs vs :=
 h.mono (p:=fun _=>false) hz hs hg (fun k b o hk=>by rw[hn] at hk;cases hk) fun j hj=>by cases hj
theorem qKT:∀ {xs:List PV} {vs:List Value} {Z:Nat->Prop} {ph:PHp} {ys:List PV} {ph':PHp},Hp P Z H (own m ph)->VRL P Z H (own m ph) xs vs->fzA P xs ph=some (ys,ph')->∃ Z',Fz P Z H m ph Z' ph'∧VRL P Z' H (fun _=>none) ys vs
 | [],vs,Z,ph,ys,ph',hp,hx,h=>by
   simp only[fzA,zP7,Prod.mk.injEq] at h;obtain⟨rfl,rfl⟩:=h;rw[hx.zGT];exact⟨Z,.refl hp,.nil⟩
 | x::xs,_,Z,ph,ys,ph',hp,hx,h=>by
   obtain⟨v,vs,rfl,h1,h2⟩:=hx.zGP;unfold fzA at h;split at h
   ·rename_i y ph1 hy;split at h
    ·rename_i ys' ph2 hys;cases h;obtain⟨Z1,c1,r1⟩:=qJI hp h1 hy;obtain⟨Z2,c2,r2⟩:=qKT c1.hp (c1.vrl h2) hys;exact⟨Z2,c1.trans c2,.cons (r1.mono (p:=fun _=>false) c2.zle (zP0 _) (fun _ _ _=>rfl) (.refl _ _) fun j hj=>by cases hj) r2⟩
    ·cases h
   ·cases h
end Go.Idl
namespace Go.Idl
variable [Gc]
variable {P:Program}{Z:Nat->Prop}{H:IH}{M:Nat->Option (Nat×PO)}{m:Nat->Nat}{ph:PHp}{G:Nat->Bool}
variable {H':IH}{M':Nat->Option (Nat×PO)}{Z':Nat->Prop}{cs env:List PV}{zGN:Env}{t:TypeId}{v:Value}{vs:Array Value}{x:PV}
theorem Hp.old (h:Hp P Z H (own m ph))(ho:Old H H')(hz:∀ b,Z b->Z' b)(hz1:∀ b,Z' b->b < H'.size)(hz2:∀ b,Z' b->b < H.size->Z b):Hp P Z' H' (own m ph):=by
 refine⟨hz1,fun k b ob hk=>?_,h.inj,h.gl.mono h.zlt hz fun b _ hb=>ho.get b hb⟩
 rcases h.obj k b ob hk with h1 | ⟨a1,a2,a3,a4⟩
 ·exact .inl h1
 ·exact .inr ⟨zP3 a1 ho.size,by rw[ho.base];exact a2,fun h=>a3 (hz2 b h a1),a4.mono (ho.get b a1) fun _ a5=>a5.mono (p:=fun _=>false) hz ho.size (fun b _ hb=>ho.get b hb) (.refl _ _) (fun j hj=>by cases hj)⟩
theorem Step.old (ho:Old H H')(hz:∀ b,Z b->Z' b)(hz2:∀ b,Z' b->b < H.size->Z b):Step Z H M Z' H' M :=
 ⟨ho.size,ho.base,hz,fun b hb _=>ho.get b hb,fun b h hb=>.inl (hz2 b h hb),fun _ h _=>h⟩
def q8N:PV->Bool
 | .f (.v (.slice _ _ _))=>false
 | _=>true
def qZF:PV->Bool
 | .agg cs=>cs.all q8N
 | x=>q8N x
def vJ:PV->Bool
 | .f (.v x)=>q8N (.f (.v x))
 | .agg cs=>(qJM cs).isSome&&cs.all q8N
 | .tup cs=>(plL cs).isSome&&cs.all qZF
 | _=>false
theorem qM9 (h:VR P Z H M x v)(hp:(pl1 x).isSome=true)(Z':Nat->Prop)(H':IH)(M':Nat->Option (Nat×PO)):VR P Z' H' M' x v:=by
 unfold pl1 at hp;split at hp
 ·cases h with
  | f h=>cases h with
    | v a b=>exact .f (.v a b)
 ·cases hp
theorem qIP (Z':Nat->Prop)(H':IH)(M':Nat->Option (Nat×PO)):∀ {xs:List PV} {vs:List Value},VRL P Z H M xs vs->(qJM xs).isSome=true->VRL P Z' H' M' xs vs
 | [],vs,h,_=>by rw[h.zGT];exact .nil
 | x::xs,_,h,hp=>by
   obtain⟨v,vs,rfl,h1,h2⟩:=h.zGP;unfold qJM at hp;split at hp
   ·rename_i a ha;split at hp
    ·rename_i as has;exact .cons (qM9 h1 (by rw[ha];rfl) _ _ _) (qIP Z' H' M' h2 (by rw[has];rfl))
    ·cases hp
   ·cases hp
theorem VR.zJA (h:VR P Z H M (.agg cs) v):∃ vs,v=.agg vs∧VRL P Z H M cs vs.toList:=by
 cases h with
 | agg hl hc=>exact⟨_,rfl,by simpa using hl,fun i x v a b=>hc i x v a (by simpa using b)⟩
theorem VR.zK4 (h:VR P Z H M (.tup cs) v):∃ vs,v=.tuple vs∧VRL P Z H M cs vs.toList:=by
 cases h with
 | tup hl hc=>exact⟨_,rfl,by simpa using hl,fun i x v a b=>hc i x v a (by simpa using b)⟩
theorem VRL.agg' (h:VRL P Z H M cs vs.toList):VR P Z H M (.agg cs) (.agg vs):=.agg (by simpa using h.len) fun i x v a b=>h.val i x v a (by simpa using b)
theorem VRL.zI5 (h:VRL P Z H M cs vs.toList):VR P Z H M (.tup cs) (.tuple vs):=.tup (by simpa using h.len) fun i x v a b=>h.val i x v a (by simpa using b)
theorem zBF (h:VR P Z H M x v)(hp:(pl x).isSome=true)(Z':Nat->Prop)(H':IH)(M':Nat->Option (Nat×PO)):VR P Z' H' M' x v:=by
 unfold pl at hp;split at hp
 ·exact qM9 h rfl _ _ _
 ·rename_i cs;obtain⟨vs,rfl,hr⟩:=h.zJA;refine (qIP Z' H' M' hr ?_).agg';split at hp
  ·rename_i as has;rw[has];rfl
  ·cases hp
 ·cases hp
theorem qVD (Z':Nat->Prop)(H':IH)(M':Nat->Option (Nat×PO)):∀ {xs:List PV} {vs:List Value},VRL P Z H M xs vs->(plL xs).isSome=true->VRL P Z' H' M' xs vs
 | [],vs,h,_=>by rw[h.zGT];exact .nil
 | x::xs,_,h,hp=>by
   obtain⟨v,vs,rfl,h1,h2⟩:=h.zGP;unfold plL at hp;split at hp
   ·rename_i a ha;split at hp
    ·rename_i as has;exact .cons (zBF h1 (by rw[ha];rfl) _ _ _) (qVD Z' H' M' h2 (by rw[has];rfl))
    ·cases hp
   ·cases hp
theorem qFS (h:VR P Z H M x v)(hp:vJ x=true)(Z':Nat->Prop)(H':IH)(M':Nat->Option (Nat×PO)):VR P Z' H' M' x v:=by
 unfold vJ at hp;split at hp
 ·exact qM9 h rfl _ _ _
 ·obtain⟨vs,rfl,hr⟩:=h.zJA;rw[zPY] at hp;exact (qIP Z' H' M' hr hp.1).agg'
 ·obtain⟨vs,rfl,hr⟩:=h.zK4;rw[zPY] at hp;exact (qVD Z' H' M' hr hp.1).zI5
 ·cases hp
def wB (P:Program):Nat->TypeId->List TypeId
 | 0,t=>[t]
 | n+1,t=>match P.underlying t with
   | some (.struct fields)=>fields.toList.flatMap fun f=>wB P n f.type
   | some (.array k el)=>(List.replicate k (wB P n el)).flatten
   | _=>[t]
def rt0 (P:Program)(t:TypeId):PV->PV
 | .f (.v (.slice none 0 0))=>match zQ P t with
   | some el=>.f (.l el 0 [])
   | none=>fvv (.slice none 0 0)
 | x=>x
def rtC [Gc](P:Program)(t:TypeId)(x:PV):PV:=cond (Gc.ol t) x (rt0 P t x)
def rtL (f:TypeId->PV->PV):List TypeId->List PV->List PV
 | t::ts,x::xs=>f t x::rtL f ts xs
 | _,xs=>xs
def rt1 (P:Program)(t:TypeId):PV->PV
 | .agg cs=>.agg (rtL (rtC P) (wB P 8 t) cs)
 | x=>rt0 P t x
def rtA (P:Program)(g:FuncId)(args:List PV):List PV:=match P.funcs[g]? with
 | some fn=>rtL (rt1 P) fn.params.toList args
 | none=>args
theorem q5L (h:VR P Z H M x v):VR P Z H M (rt0 P t x) v:=by
 unfold rt0;split
 ·split
  ·have:=yL h rfl;subst this;exact .f (.nil (fun _=>rfl) fun _ h=>by cases h)
  ·exact h
 ·exact h
theorem q50 (h:VR P Z H M x v):VR P Z H M (rtC P t x) v:=by
 unfold rtC;cases Gc.ol t
 ·exact q5L h
 ·exact h
theorem qFG {f:TypeId->PV->PV}(hf:∀ t x v,VR P Z H M x v->VR P Z H M (f t x) v):∀ {ts:List TypeId} {xs:List PV} {vs:List Value},VRL P Z H M xs vs->VRL P Z H M (rtL f ts xs) vs
 | [],xs,vs,h=>by cases xs <;> exact h
 | t::ts,[],vs,h=>h
 | t::ts,x::xs,vs,h=>by
   obtain⟨v,vs',rfl,h1,h2⟩:=h.zGP;exact .cons (hf t x v h1) (qFG hf h2)
theorem qET (h:VR P Z H M x v):VR P Z H M (rt1 P t x) v:=by
 unfold rt1;split
 ·obtain⟨vs,rfl,hr⟩:=h.zJA;exact (qFG (fun t x v h=>q50 h) hr).agg'
 ·exact q5L h
theorem zC6 {g:FuncId}{xs:List PV}{vs:List Value}(h:VRL P Z H M xs vs):VRL P Z H M (rtA P g xs) vs:=by
 unfold rtA;split
 ·exact qFG (fun t x v h=>qET h) h
 ·exact h
abbrev uZ:=FuncId->List PV->Option PV
def Ctr (P:Program)(k:List Value->IH->T (Value×IH))(zIQ:List PV)(r:PV):Prop :=
 ∀ (Z:Nat->Prop) (H:IH) (args:List Value),VRL P Z H (fun _=>none) zIQ args->(∀ b,Z b->b < H.size)->H.base<=H.size->q5R Z H->∀ Q:Value×IH->Prop,
  (∀ v H' (Z':Nat->Prop),Old H H'->(∀ b,Z b->Z' b)->(∀ b,Z' b->b < H'.size)->(∀ b,Z' b->b < H.size->Z b)->VR P Z' H' (fun _=>none) r v->Q (v,H'))->(k args H).holds Q
def qT4:PV->Bool
 | .f _=>true
 | _=>false
def qKR:PV->Bool
 | .agg cs=>cs.all qT4
 | x=>qT4 x
def q9C:PV->Bool
 | .tup cs=>cs.all qKR
 | x=>qKR x
theorem qQ7 (h:VR P Z H M x v)(hp:qT4 x=true):VR P Z H M' x v:=by
 unfold qT4 at hp;split at hp
 ·cases h with
  | f h=>exact .f h
 ·cases hp
theorem dZ (h:VR P Z H M x v)(hp:qKR x=true):VR P Z H M' x v:=by
 unfold qKR at hp;split at hp
 ·obtain⟨vs,rfl,hr⟩:=h.zJA;exact VRL.agg' ⟨hr.len,fun i x v a b=>qQ7 (hr.val i x v a b) (zP1.1 hp x (zQ7 a))⟩
 ·exact qQ7 h hp
theorem q1B (h:VR P Z H M x v)(hp:q9C x=true):VR P Z H M' x v:=by
 unfold q9C at hp;split at hp
 ·obtain⟨vs,rfl,hr⟩:=h.zK4;exact VRL.zI5 ⟨hr.len,fun i x v a b=>dZ (hr.val i x v a b) (zP1.1 hp x (zQ7 a))⟩
 ·exact dZ h hp
def qTB (P:Program)(nat:xJ)(tab:uZ):Prop:=∀ g zIQ r,tab g zIQ=some r->enters P g=true∧q9C r=true∧∃ k,nat g=some k∧Ctr P k zIQ r
structure Nm where
 b:Nat
 p:Nat->Bool
def qOI (P:Program)(g:FuncId):Bool:=match P.funcs[g]? with
 | some fn=>fn.body.isNone&&!(fn.name == "internal/abi.NoEscape" && fn.origin == "")
 | none=>false
def qEA (P:Program)(G:Nat->Bool)(nm:Nm)(g:FuncId)(args:List PV)(ph:PHp)(R:PV->PHp->Prop):Prop :=
 (qOI P g=true∧∃ vs v,plL args=some vs∧(zP vs&&jL (xS 2) vs)=true∧yU P (callFunc g vs.toArray)=some (.value v)∧qKH v=true∧R (ofC v) ph) ∨
 enters P g=true∧∀ (Z:Nat->Prop) (H:IH) (m:Nat->Nat) (zG0:List Value),Hp P Z H (own m ph)->H.base<=H.size->VRL P Z H (own m ph) args zG0 ->
  gD P G g zG0 H fun r=>∃ Z' m' pv ph',Hp P Z' r.2 (own m' ph')∧VR P Z' r.2 (own m' ph') pv r.1∧Step Z H (own m ph) Z' r.2 (own m' ph')∧KR nm.p (own m ph) (own m' ph')∧R pv ph'
inductive PE where
 | fail
 | ok (v:PV) (ph:PHp)
 | call (g:FuncId) (args:List PV) (ph:PHp)
 | rnd (l:Nat) (args:List PV) (ph:PHp)
inductive PT where
 | fail
 | ret (env:List PV) (ph:PHp)
 | chk (c:Bool) (t:PT)
 | call (nm:Nm) (g:FuncId) (args:List PV) (ph:PHp) (k:PV->PHp->PT)
 | rnd (l:Nat) (args:List PV) (ph:PHp) (k:PV->PHp->PT)
def PT.holds (P:Program)(G:Nat->Bool)(Q:List PV->PHp->Prop):PT->Prop
 | .fail=>False
 | .ret env ph=>Q env ph
 | .chk c t=>c=true∧t.holds P G Q
 | .call nm g args ph k=>∃ R,qEA P G nm g args ph R∧∀ v ph',R v ph'->(k v ph').holds P G Q
 | .rnd _ _ _ _=>False
noncomputable def aF (P:Program)(tab:uZ)(g:FuncId)(args:List PV)(ph:PHp):PE:=match fzA P args ph with
 | some (zHT,ph1)=>(match tab g (rtA P g zHT) with
   | some r=>.ok r (cond (vJ r) ph ph1)
   | none=>.fail)
 | none=>.fail
noncomputable def mF (P:Program)(tab:uZ)(inl:FuncId->Bool)(g:FuncId)(args:List PV)(ph:PHp):PE:=cond (inl g) (.call g args ph) (aF P tab g args ph)
noncomputable def oP (P:Program)(tab:uZ)(inl:FuncId->Bool)(fv:PV)(args:List PV)(ph:PHp):PE:=match fv with
 | .f (.v (.func (.func g) a c))=>cond (a.toList.isEmpty&&c.toList.isEmpty) (mF P tab inl g args ph) .fail
 | .yl l=>.rnd l args ph
 | .fn g first cap=>mF P tab inl g (first++(args++cap)) ph
 | _=>.fail
def peO:Option (PV×PHp)->PE
 | some r=>.ok r.1 r.2
 | none=>.fail
noncomputable def aU (P:Program)(tab:uZ)(inl:FuncId->Bool)(k:Nat)(o:Oper)(env:List PV)(ph:PHp):PE:=match o.op with
 | .call ⟨.value f,args,_⟩=>oP P tab inl (qJ env f) (args.toList.map (qJ env)) ph
 | _=>peO (q5M P o env k ph)
def qQ1 (want:Bool):PV->Option Bool
 | .f (.v (.bool b))=>some (b==want)
 | .tup cs=>cond cs.isEmpty (some false) none
 | _=>none
noncomputable def qPG (w:Bool)(env:List PV):Option Tmp->Option Bool
 | some t=>(match zG env t with
   | some v=>qQ1 w v
   | none=>none)
 | none=>some false
noncomputable def vK (ds:List (Option Tmp))(o:Oper)(env:List PV):Option Bool:=match o.guard with
 | none=>some true
 | some (j,w)=>qPG w env (qS0 ds j)
def wid (b:Nat):Nat:=cond (Nat.blt b 1000) 1 (cond (Nat.blt b 1000000) 1000 (cond (Nat.blt b 1000000000) 1000000 (cond (Nat.blt b 1000000000000) 1000000000 (cond (Nat.blt b 1000000000000000) 1000000000000 (cond (Nat.blt b 1000000000000000000) 1000000000000000 (cond (Nat.blt b 1000000000000000000000) 1000000000000000000 (cond (Nat.blt b 1000000000000000000000000) 1000000000000000000000 1000000000000000000000000)))))))
def inB (b k:Nat):Bool:=Nat.beq ((k / 1000) % wid b) (b / 1000)
def inP (nm:Nm)(k:Nat):Bool:=nm.p k
def qVV (nm:Nm)(g:FuncId):Nm:=⟨nm.b+wid nm.b*1000*(g+1),fun k=>inB (nm.b+wid nm.b*1000*(g+1)) k&&nm.p k⟩
def zFT (b k:Nat):Bool:=inB b k&&Nat.blt (k % 1000) 900
mutual
def noP (p:Nat->Bool):PV->Bool
 | .f _=>true
 | .agg cs=>tV p cs
 | .tup cs=>tV p cs
 | .own j _ _ _=>!p j
 | .ref j _ _=>!p j
 | .lp _ _=>true
 | .fn _ a b=>tV p a&&tV p b
 | .yl _=>true
 | .bq=>true
 | .unk=>true
 | .mp j=>!p j
 | .asl _ j _=>!p j
def tV (p:Nat->Bool):List PV->Bool
 | []=>true
 | x::l=>noP p x&&tV p l
end
def q1T (p:Nat->Bool):PHp->Bool
 | []=>true
 | (_,o)::ph=>tV p o.cs&&q1T p ph
def q5Y (nm:Nm)(j:FuncId)(env:List PV)(ph:PHp):Bool:=tV (inB (nm.b+wid nm.b*1000*(j+1))) env&&((ph.all fun x=>!inB (nm.b+wid nm.b*1000*(j+1)) x.1||nm.p x.1)&&q1T (zFT (nm.b+wid nm.b*1000*(j+1))) ph)
def qLF (nm:Nm)(g:FuncId)(env:List PV)(ph:PHp):FuncId:=cond (q5Y nm g env ph) g (cond (q5Y nm (g+333) env ph) (g+333) (cond (q5Y nm (g+666) env ph) (g+666) g))
def clean (p:Nat->Bool)(env:List PV):PHp->Bool
 | []=>true
 | (k,_)::ph=>(!p k||yB k env)&&clean p env ph
def qH (nm:Nm)(d:Option Tmp):Nat:=match d with
 | some t=>nm.b+t
 | none=>nm.b
def fresh (nm:Nm)(k:Nat)(env:List PV)(ph:PHp):Bool:=inP nm k&&(yB k env&&aC k ph)
def q9X (c:Bool)(k:Nat)(nm:Nm)(env:List PV)(ph:PHp)(t:PT):PT:=cond c (.chk (fresh nm k env ph) t) t
noncomputable def pops (P:Program)(tab:uZ)(inl:FuncId->Bool)(nm:Nm)(ds:List (Option Tmp)):List Oper->List PV->PHp->PT
 | [],env,ph=>.ret env ph
 | o::l,env,ph=>vO (vK ds o env)
    (match aU P tab inl (qH nm o.dst) o env ph with
     | .fail=>.fail
     | .ok v ph'=>q9X (needs o.op) (qH nm o.dst) nm env ph (pops P tab inl nm ds l (yQ env o.dst v) ph')
     | .call g args ph'=>.call (qVV nm (qLF nm g env ph')) g args ph' fun v ph2=>.chk (clean (qVV nm (qLF nm g env ph')).p env ph2) (pops P tab inl nm ds l (yQ env o.dst v) ph2)
     | .rnd x args ph'=>.rnd x args ph' fun v ph2=>pops P tab inl nm ds l (yQ env o.dst v) ph2)
    (pops P tab inl nm ds l (yQ env o.dst (.tup [])) ph) .fail
theorem KR.trans {p:Nat->Bool}{M1 M2 M3:Nat->Option (Nat×PO)}(a:KR p M1 M2)(b:KR p M2 M3):KR p M1 M3:=fun k b' ob' h=>by
 rcases b k b' ob' h with ⟨ob,h1,h2,h3,h4⟩ | ⟨b1,ob,h1,h2,h3,hb1⟩ | h
 ·rcases a k b' ob h1 with ⟨o2,q1,q2,q3,q4⟩ | ⟨b2,o2,q1,q2,q3,qb2⟩ | q
  ·exact .inl ⟨o2,q1,q2.trans h2,q3.trans h3,q4.trans h4⟩
  ·exact .inr (.inl ⟨b2,o2,q1,by omega,q3.trans h3,qb2⟩)
  ·exact .inr (.inr q)
 ·rcases a k b1 ob h1 with ⟨o2,q1,q2,q3,q4⟩ | ⟨b2,o2,q1,q2,q3,qb2⟩ | q
  ·exact .inr (.inl ⟨b1,o2,q1,by omega,q3.trans h3,fun hh=>hb1 (by rw[<-q3];exact hh)⟩)
  ·exact .inr (.inl ⟨b2,o2,q1,by omega,q3.trans h3,fun hh=>(qb2 hh).trans (hb1 (by rw[<-q3];exact hh))⟩)
  ·exact .inr (.inr q)
 ·exact .inr (.inr h)
theorem KR.up {p q:Nat->Bool}{M1 M2:Nat->Option (Nat×PO)}(a:KR p M1 M2)(h:∀ k,p k=true->q k=true):KR q M1 M2:=fun k b ob hk=>by
 rcases a k b ob hk with h1 | h1 | h1
 ·exact .inl h1
 ·exact .inr (.inl h1)
 ·exact .inr (.inr (h k h1))
theorem VRL.zG9 (h:VRL P Z H M env zGN)(hx:VR P Z H M x v)(d:Option Tmp):VRL P Z H M (yQ env d x) (zGN.zG9 d v):=by
 cases d with
 | none=>exact h
 | some t =>
   show VRL P Z H M (yS env t x) (yS zGN t v);rw[qW,qW];exact h.set hx t
theorem rY {ops:Array Oper}{o:Oper}{b:Bool}(he:VRL P Z H M env zGN)(h:vK (ops.toList.map (·.dst)) o env=some b):kS ops o zGN=some b:=by
 rw[qN8];unfold vK at h;unfold qPC;split at h
 ·rename_i hg;rw[hg];exact h
 ·rename_i j w hg;rw[hg];simp only;unfold qPG at h;unfold qSW;split at h
  ·rename_i t ht;rw[ht];simp only;split at h
   ·rename_i v hv;rw[qF] at hv;obtain⟨u,h1,h2⟩:=he.get hv;unfold zC8;rw[qF,h1];unfold qQ1 at h;split at h
    ·have:=yL h2 rfl;subst this;exact h
    ·rename_i cs
     cases hc:cs.isEmpty with
     | false=>rw[hc] at h;cases h
     | true =>
       rw[hc] at h;obtain⟨vs,rfl,hr⟩:=h2.zK4
       have:cs=[]:=by cases cs with
        | nil=>rfl
        | cons=>cases hc
       subst this;have h3:=hr.zGT;have:vs=#[]:=by simpa using h3
       subst this;exact h
    ·cases h
   ·cases h
  ·rename_i ht;rw[ht];exact h
end Go.Idl
namespace Go.Idl
variable [Gc]
variable {P:Program}{Z:Nat->Prop}{H:IH}{m:Nat->Nat}{ph:PHp}{G:Nat->Bool}{nat:xJ}{tab:uZ}{inl:FuncId->Bool}{nm:Nm}
variable {F:Fence}{K:Act->World->Prop}{Q:Value×IH->Prop}{Qx:Exit->Act->World->Prop}{a:Act}{args:List Value}{as env:List PV}{f:Inj}{g:FuncId}{zGN:Env}{o:Oper}{zG1:Array Operand}{ph':PHp}{ts:Array TypeId}{w:World}{x:Operand}
def jW:Job->IH->T Out:=fun _ _=>.fail
theorem qE5 (hs:vW P G nat):kM P G (yK jW nat):=by
 intro g args args' H f w Q hR hG ha h;unfold yK at h;split at h
 ·rename_i k hk;exact hs g k hk args args' H f w Q hR hG ha h
 ·exact h.elim
theorem tC:jM P G jW:=by
 intro l args args' H f w e Q hR hG he ha hq;exact hq.elim
theorem qYS:vW P G fun _=>none:=fun g k h=>by cases h
noncomputable def mK (g:FuncId)(args:List Value)(H:IH)(Q:Value×IH->Prop):xJ:=by
 classical
 exact fun g1=>if g1=g then some (fun a h=>if a=args∧h=H then .sp Q .ret else .fail) else none
theorem qWO {H:IH}(h:gD P G g args H Q):vW P G (mK g args H Q):=by
 classical
 intro g1 k hk zMR args' H1 f1 w1 Q1 hR1 hG1 ha1 hq1;unfold mK at hk;split at hk
 ·rename_i hg1;subst hg1;cases hk;change T.holds Q1 (if zMR=args∧H1=H then T.sp Q T.ret else T.fail) at hq1;split at hq1
  ·rename_i hc;obtain⟨rfl,rfl⟩:=hc;exact (h.mono fun r hr=>hq1 r hr) args' f1 w1 hR1 hG1 ha1
  ·exact hq1.elim
 ·cases hk
theorem qMP {H:IH}:yK jW (mK g args H Q) g args H=.sp Q .ret:=by
 classical
 unfold yK mK;simp
def target (fv:PV)(args:List PV):Option (FuncId×List PV):=match fv with
 | .f (.v (.func (.func g) a c))=>cond (a.toList.isEmpty&&c.toList.isEmpty) (some (g,args)) none
 | .fn g first cap=>some (g,first++(args++cap))
 | _=>none
theorem oW {fv:PV}{args:List PV}{r:PE}(h:oP P tab inl fv args ph=r)(hr:r≠.fail)(hr2:∀ x a p,r≠.rnd x a p):∃ g as,target fv args=some (g,as)∧mF P tab inl g as ph=r:=by
 unfold oP at h;unfold target;split at h
 ·rename_i g a c
  cases hc:(a.toList.isEmpty&&c.toList.isEmpty) with
  | false=>rw[hc] at h;exact absurd h.symm hr
  | true=>rw[hc] at h;exact⟨g,args,(by simp only;rw[hc];rfl),h⟩
 ·exact absurd h.symm (hr2 _ _ _)
 ·exact⟨_,_,rfl,h⟩
 ·exact absurd h.symm hr
theorem nZ (he:VRL P Z H (own m ph) env zGN)(h:target (qJ env x) (zG1.toList.map (qJ env))=some (g,as))(hent:enters P g=true) :
 ∃ zG0,yJ P o ⟨.value x,zG1,ts⟩ zGN H=some (.enter g zG0 H)∧VRL P Z H (own m ph) as zG0:=by
 have hx:=qK he x;have ha:=VRL.of he zG1.toList;unfold target at h;split at h
 ·rename_i g' a c hfv;rw[hfv] at hx;have hv:=yL hx rfl
  cases hc:(a.toList.isEmpty&&c.toList.isEmpty) with
  | false=>rw[hc] at h;cases h
  | true =>
    rw[hc] at h;cases h;rw[zPY] at hc;have e1:a.toList=[]:=by simpa using hc.1
    have e2:c.toList=[]:=by simpa using hc.2
    refine⟨_,qLC hv hent,?_⟩;rw[e1,e2,xI];simpa [bQ] using ha
 ·rename_i g' first cap hfv
  cases h;rw[hfv] at hx
  cases hv:zGN.val x with
  | func fn fs cs =>
    rw[hv] at hx
    cases hx with
    | fn hf hc hfc hcc =>
      refine⟨_,qLC hv hent,?_⟩;rw[bQ,bQ,xI];exact VRL.append ⟨by simpa using hf,fun i x v a b=>hfc i x v a (by simpa using b)⟩ (ha.append ⟨by simpa using hc,fun i x v a b=>hcc i x v a (by simpa using b)⟩)
  | _=>rw[hv] at hx;cases hx
 ·cases h
theorem q92 (nm:Nm){k:Nat}(h:fresh nm k env ph=true):inP nm k=true∧yB k env=true∧aC k ph=true:=by
 unfold fresh at h;simp only[zPY] at h;exact h
theorem qM8 (hF:bE F)(hns:vW P G nat)(ht:qTB P nat tab){v:PV}(hR:Rel P f H w)(hG:gG G f)(zGV:qD P f zGN a.tmps.toList)
 (hok:o.op.operands.toList.all (jC (qX f))=true) (hp:Hp P Z H (own m ph)) (hb:H.base<=H.size) (he:VRL P Z H (own m ph) env zGN) (hx:aU P tab inl (qH nm o.dst) o env ph=.ok v ph') (hn:needs o.op=true->fresh nm (qH nm o.dst) env ph=true)
 (hK:∀ (Z':Nat->Prop) (m':Nat->Nat) (u:Value) (H':IH) (f':Inj) (v':Value) (w':World),Hp P Z' H' (own m' ph')->VR P Z' H' (own m' ph') v u->VRL P Z' H' (own m' ph') env zGN->Step Z H (own m ph) Z' H' (own m' ph')->KR (inP nm) (own m ph) (own m' ph') ->
   Rel P f' H' w'->Grow f H w f' H' w'->zGO P f' u v'->K (a.put o.dst v') w'):o.wpIn F 0 P a w K Qx:=by
 have plain:peO (q5M P o env (qH nm o.dst) ph)=.ok v ph'->o.wpIn F 0 P a w K Qx:=fun hx=>by
  unfold peO at hx;split at hx
  ·rename_i r hr;cases hx;obtain⟨u,H',Z',m',h1,h2,h3,h4,h5⟩:=q77 hp hb he (fun h=>(q92 nm (hn h)).2) hr;refine wM (run:=jW) (nat:=fun _=>none) (G:=G) (Q:=fun r=>r=(u,H')) hF (qE5 qYS) tC hR hG zGV hok ?_ ?_
   ·unfold tJ;rw[h1];rfl
   ·rintro r v' w' f' rfl k1 k2 k3;refine hK Z' m' u H' f' v' w' h2 h3 ?_ h4 ?_ k1 k2 k3
    ·refine he.mono h4.zle h4.size (hp.zIH h4) h5 fun j hj=>?_
     unfold nw at hj;rw[zPY] at hj;have:j=qH nm o.dst:=by simpa using hj.2
     subst this;exact (q92 nm (hn hj.1)).2.1
    ·refine h5.up fun j hj=>?_
     unfold nw at hj;rw[zPY] at hj;have:j=qH nm o.dst:=by simpa using hj.2
     subst this;exact (q92 nm (hn hj.1)).1
  ·cases hx
 unfold aU at hx;split at hx
 ·rename_i x zG1 ts hop;obtain⟨g,as,h1,h2⟩:=oW hx (fun h=>by cases h) (fun _ _ _ h=>by cases h);unfold mF at h2
  cases hi:inl g with
  | true=>rw[hi] at h2;cases h2
  | false =>
    rw[hi] at h2;simp only[cond_false] at h2;unfold aF at h2;split at h2
    ·rename_i zHT ph1 hfz;split at h2
     ·rename_i r hr
      have hv:r=v∧cond (vJ r) ph ph1=ph':=by
       injection h2 with e1 e2;exact⟨e1,e2⟩
      obtain⟨rfl,hph⟩:=hv;obtain⟨hent,hfr,k,hk,zL4⟩:=ht g _ r hr;obtain⟨zG0,q1,q2⟩:=nZ (o:=o) (ts:=ts) he h1 hent;obtain⟨Z1,c1,r1⟩:=qKT hp q2 hfz
      let Q:Value×IH->Prop:=fun x=>∃ Z':Nat->Prop,Old H x.2∧(∀ b,Z1 b->Z' b)∧(∀ b,Z' b->b < x.2.size)∧(∀ b,Z' b->b < H.size->Z1 b)∧VR P Z' x.2 (fun _=>none) r x.1
      have hQ:(k zG0 H).holds Q:=zL4 Z1 H zG0 (zC6 r1) c1.hp.zlt hb c1.hp.gl Q fun v H' Z' a1 a2 a3 a4 a5=>⟨Z',a1,a2,a3,a4,a5⟩
      refine wM (run:=jW) (nat:=nat) (G:=G) (Q:=Q) hF (qE5 hns) tC hR hG zGV hok ?_ ?_
      ·have:iop P o zGN H=some (.enter g zG0 H):=by
        unfold iop;rw[hop];exact q1
       unfold tJ;rw[this];show (yK jW nat g zG0 H).holds Q;unfold yK;rw[hk];exact hQ
      ·rintro⟨u,H'⟩ v' w' f' ⟨Z',a1,a2,a3,a4,a5⟩ k1 k2 k3
       cases hpl:vJ r with
       | true =>
         rw[hpl] at hph;have hph:ph=ph':=hph;subst hph;have z1:∀ b,Z b->b < H'.size:=fun b hb=>zP3 (hp.zlt b hb) a1.size
         exact hK Z m u H' f' v' w' (hp.old a1 (fun _ h=>h) z1 (fun _ h _=>h)) (qFS a5 hpl _ _ _) (he.mono (p:=fun _=>false) (fun _ h=>h) a1.size (fun b _ hb=>a1.get b hb) (.refl _ _) (fun j hj=>by cases hj)) (.old a1 (fun _ h=>h) (fun _ h _=>h)) (.refl _ _) k1 k2 k3
       | false =>
         rw[hpl] at hph;have hph:ph1=ph':=hph;subst hph;exact hK Z' m u H' f' v' w' (c1.hp.old a1 a2 a3 a4) (q1B a5 hfr) ((c1.vrl he).mono (p:=fun _=>false) a2 a1.size (fun b _ hb=>a1.get b hb) (.refl _ _) (fun j hj=>by cases hj)) (c1.step.trans (.old a1 a2 a4)) (c1.kr _) k1 k2 k3
     ·cases h2
    ·cases h2
 ·exact plain hx
theorem q08 {f:Operand}{env:Env}{fs cs:Array Value}(hv:env.val f=.func (.func g) fs cs)(hx:qOI P g=true):fP P ⟨.value f,zG1,ts⟩ env H=none:=by
 unfold qOI at hx;unfold fP;simp only[hv];split at hx
 ·rename_i fn hfn;rw[zPY,zQX] at hx;simp only[hfn]
  have h1:fn.body.isSome=false:=by
   cases hb:fn.body with
   | none=>rfl
   | some c=>rw[hb] at hx;cases hx.1
  rw[h1,hx.2];simp
 ·cases hx
theorem qNN:∀ {xs ys:List PV} {vs:List Value},plL (xs++ys)=some vs->∃ a b,vs=a++b∧plL xs=some a∧plL ys=some b
 | [],ys,vs,h=>⟨[],vs,rfl,rfl,h⟩
 | x::xs,ys,vs,h=>by
   rw[zR0] at h;unfold plL at h;split at h
   ·rename_i v hv;split at h
    ·rename_i l hl;cases h;obtain⟨a,b,rfl,h1,h2⟩:=qNN hl;refine⟨v::a,b,rfl,?_,h2⟩;unfold plL;rw[hv,h1]
    ·cases h
   ·cases h
theorem q8S {vs:List Value}{v:Value}(hop:o.op=.call ⟨.value x,zG1,ts⟩)(he:VRL P Z H (own m ph) env zGN)(h:target (qJ env x) (zG1.toList.map (qJ env))=some (g,as))(hx:qOI P g=true)(hp:plL as=some vs)(zMS:(zP vs&&jL (xS 2) vs)=true)
 (hs:yU P (callFunc g vs.toArray)=some (.value v)) (hd:qKH v=true):iop P o zGN H=some (.val v H):=by
 have hx0:=qK he x;have ha:=VRL.of he zG1.toList;rw[zPY] at zMS;obtain⟨hpl,hp2⟩:=zMS
 have key:∀ fs cs,zGN.val x=.func (.func g) fs cs->fs.toList++(jA zGN.val zG1.toList++cs.toList)=vs->zN (zGN.val x)=true->iop P o zGN H=some (.val v H):=fun fs cs hv hvs hpv=>by
  unfold iop;rw[hop];show yJ P o ⟨.value x,zG1,ts⟩ zGN H=_;unfold yJ;rw[q08 hv hx];unfold jE
  have hpo:zP (jA zGN.val o.op.operands.toList)=true:=by
   rw[hop];have e:(Op.call ⟨.value x,zG1,ts⟩).operands.toList=x::zG1.toList:=by simp[Op.operands,Call.operands]
   rw[e,xI,zQG];rw[xI] at hvs
   have:zP (zG1.toList.map zGN.val)=true:=by
    rw[<-hvs] at hpl;unfold zP at hpl ⊢;rw[kC] at hpl ⊢;exact fun a ha=>hpl a (by simp only[zQ8];exact .inr (.inl ha))
   unfold zP at this ⊢;rw[xR,hpv,this];rfl
  rw[if_pos hpo]
  have he:execOp zGN.val o=(do let d <- resolve zGN.val ⟨.value x,zG1,ts⟩ o.type;invoke d.target d.args):=by
   unfold execOp;rw[hop]
  have hr:resolve zGN.val ⟨.value x,zG1,ts⟩ o.type=pure { target:=.fn (.func g) cs,args:=fs++zG1.map zGN.val }:=by
   unfold resolve Deferred.ofValue;simp only[hv]
  have:execOp zGN.val o=callFunc g vs.toArray:=by
   rw[he,hr];show invoke (.fn (.func g) cs) (fs++zG1.map zGN.val)=_;unfold invoke;simp only
   congr 1
   apply Array.toList_inj.1;rw[<-hvs,xI];simp
  rw[this,hs];show qB8 H v=_;unfold qB8;rw[hd];rfl
 unfold target at h;split at h
 ·rename_i g' a c hfv;rw[hfv] at hx0;have hv:=yL hx0 rfl
  cases hc:(a.toList.isEmpty&&c.toList.isEmpty) with
  | false=>rw[hc] at h;cases h
  | true =>
    rw[hc] at h;cases h;rw[zPY] at hc;have e1:a.toList=[]:=by simpa using hc.1
    have e2:c.toList=[]:=by simpa using hc.2
    have e3:a=#[]:=by simpa using e1
    have e4:c=#[]:=by simpa using e2
    subst e3 e4;refine key _ _ hv ?_ (by rw[hv];rfl);have:=qKI ha (by simpa using hp);rw[xI];simpa using this
 ·rename_i g' first cap hfv
  cases h;rw[hfv] at hx0;obtain⟨a,b,rfl,p1,p2⟩:=qNN hp;obtain⟨b,c,rfl,p3,p4⟩:=qNN p2
  cases hv:zGN.val x with
  | func fn fs cs =>
    rw[hv] at hx0
    cases hx0 with
    | fn hf hc hfc hcc =>
      have q1:=qKI (vs:=fs.toList) ⟨by simpa using hf,fun i x v a b=>hfc i x v a (by simpa using b)⟩ p1;have q2:=qKI (vs:=cs.toList) ⟨by simpa using hc,fun i x v a b=>hcc i x v a (by simpa using b)⟩ p4;have q3:=qKI ha (by simpa using p3);refine key fs cs hv (by rw[q1,q2,xI];rw[<-q3]) ?_;rw[hv];rw[kC] at hp2;show (zBQ (.func g)&&(jL (xS 2) fs.toList&&jL (xS 2) cs.toList))=true;rw[zPY,zPY,kC,kC];exact⟨rfl,fun y hy=>hp2 y (by rw[q1] at hy;simp[hy]),fun y hy=>hp2 y (by rw[q2] at hy;simp[hy])⟩
  | _=>rw[hv] at hx0;cases hx0
 ·cases h
theorem qRK {p:Nat->Bool}{env:List PV}:∀ {ph:PHp} {k:Nat},clean p env ph=true->(p k&&(qA k ph).isSome)=true->yB k env=true
 | [],k,_,h=>by simp[qA] at h
 | (j,o)::ph,k,h,hk=>by
   have h:((!p j||yB j env)&&clean p env ph)=true:=h;rw[zPY] at h hk;obtain⟨hk1,hk2⟩:=hk;have hk2:(cond (k==j) (some o) (qA k ph)).isSome=true:=hk2
   cases e:k==j with
   | true =>
     have:k=j:=by simpa using e
     subst this;have:=h.1;rw[hk1] at this;simpa using this
   | false =>
     rw[e] at hk2;exact qRK h.2 (by rw[hk1];exact hk2)
theorem KR.act {p:Nat->Bool}{M:Nat->Option (Nat×PO)}{m:Nat->Nat}{ph:PHp}(h:KR p M (own m ph)):KR (fun k=>p k&&(qA k ph).isSome) M (own m ph):=fun k b ob hk=>by
 rcases h k b ob hk with q | q | q
 ·exact .inl q
 ·exact .inr (.inl q)
 ·obtain⟨hl,_⟩:=vX hk;exact .inr (.inr (by show (p k&&(qA k ph).isSome)=true;rw[q,hl];rfl))
theorem q7R (hF:bE F){jj:FuncId}{R:PV->PHp->Prop}(hR:Rel P f H w)(hG:gG G f)(zGV:qD P f zGN a.tmps.toList)
 (hok:o.op.operands.toList.all (jC (qX f))=true) (hp:Hp P Z H (own m ph)) (hb:H.base<=H.size) (he:VRL P Z H (own m ph) env zGN) (hx:aU P tab inl (qH nm o.dst) o env ph=.call g as ph') (hc:qEA P G (qVV nm jj) g as ph' R) (hcl:∀ v ph2,R v ph2->clean (qVV nm jj).p env ph2=true)
 (hK:∀ (Z':Nat->Prop) (m':Nat->Nat) (v:PV) (ph2:PHp) (u:Value) (H':IH) (f':Inj) (v':Value) (w':World),R v ph2->Hp P Z' H' (own m' ph2)->VR P Z' H' (own m' ph2) v u->VRL P Z' H' (own m' ph2) env zGN->Step Z H (own m ph) Z' H' (own m' ph2)->KR (inP nm) (own m ph) (own m' ph2) ->
   Rel P f' H' w'->Grow f H w f' H' w'->zGO P f' u v'->K (a.put o.dst v') w'):o.wpIn F 0 P a w K Qx:=by
 unfold aU at hx;split at hx
 ·rename_i x zG1 ts hop;obtain⟨g1,as1,h1,h2⟩:=oW hx (fun h=>by cases h) (fun _ _ _ h=>by cases h);unfold mF at h2
  cases hi:inl g1 with
  | false =>
    rw[hi] at h2;exfalso;have h2:aF P tab g1 as1 ph=.call g as ph':=h2;unfold aF at h2;split at h2
    ·split at h2 <;> cases h2
    ·cases h2
  | true =>
    rw[hi] at h2;have h2:PE.call g1 as1 ph=.call g as ph':=h2;cases h2
    rcases hc with ⟨hxt,vs,xv,x1,x2,x3,x4,x5⟩ | ⟨hent,hc⟩
    ·refine wM (run:=jW) (nat:=fun _=>none) (G:=G) (Q:=fun r=>r=(xv,H)) hF (qE5 qYS) tC hR hG zGV hok ?_ ?_
     ·unfold tJ;rw[q8S hop he h1 hxt x1 x2 x3 x4];rfl
     ·rintro r v' w' f' rfl k1 k2 k3;exact hK Z m _ _ xv H f' v' w' x5 hp (mD xv) he (.refl _ _ _) (.refl _ _) k1 k2 k3
    obtain⟨zG0,q1,q2⟩:=nZ (o:=o) (ts:=ts) he h1 hent;have hci:=hc Z H m zG0 hp hb q2;refine wM (run:=jW) (nat:=mK g zG0 H _) (G:=G) hF (qE5 (qWO hci)) tC hR hG zGV hok (Q:=fun r=>∃ Z' m' pv ph',Hp P Z' r.2 (own m' ph')∧VR P Z' r.2 (own m' ph') pv r.1∧Step Z H (own m ph) Z' r.2 (own m' ph')∧KR (qVV nm jj).p (own m ph) (own m' ph')∧R pv ph') ?_ ?_
    ·have:iop P o zGN H=some (.enter g zG0 H):=by
      unfold iop;rw[hop];exact q1
     unfold tJ;rw[this];show (yK jW (mK g zG0 H _) g zG0 H).holds _;rw[qMP];intro r hr;exact hr
    ·rintro⟨u,H'⟩ v' w' f' ⟨Z',m',pv,ph2,b1,b2,b3,b4,b5⟩ k1 k2 k3
     exact hK Z' m' pv ph2 u H' f' v' w' b5 b1 b2 (he.mono b3.zle b3.size (hp.zIH b3) (KR.act b4) fun j hj=>qRK (hcl _ _ b5) hj) b3 (b4.up fun k h=>by
      have h:(inB _ k&&nm.p k)=true:=h;rw[zPY] at h
      exact h.2) k1 k2 k3
 ·unfold peO at hx;split at hx <;> cases hx
end Go.Idl
namespace Go.Idl
variable [Gc]
variable {P:Program}{G:Nat->Bool}{nat:xJ}{tab:uZ}{inl:FuncId->Bool}{nm:Nm}{rd:Bool}{good:FuncId->Bool}
variable {env:List PV}{id k n:Nat}{ob:PO}{ph q:PHp}{y:Code}
structure zHK (P:Program) (good:FuncId->Bool) (nat:xJ) (G:Nat->Bool) (tab:uZ):Prop where
 s:Setup P good nat G
 t:qTB P nat tab
abbrev PQ:=zHR->List PV->PHp->Prop
def Runs (P:Program)(G:Nat->Bool)(rd:Bool)(nm:Nm)(c:Code)(env:List PV)(ph:PHp)(Q:PQ):Prop :=
 ∀ (Z:Nat->Prop) (H:IH) (m:Nat->Nat) (zGN:Env),Hp P Z H (own m ph)->H.base<=H.size->VRL P Z H (own m ph) env zGN ->
  Holds P G rd c zGN H fun o=>∃ Z' m' env' ph',Hp P Z' o.H (own m' ph')∧VRL P Z' o.H (own m' ph') env' o.env∧Step Z H (own m ph) Z' o.H (own m' ph')∧KR (inP nm) (own m ph) (own m' ph')∧Q o.e env' ph'
theorem Runs.mono {c:Code}{env:List PV}{ph:PHp}{Q Q':PQ}(h:Runs P G rd nm c env ph Q)(hq:∀ e env ph,Q e env ph->Q' e env ph):Runs P G rd nm c env ph Q' :=
 fun Z H m zGN hp hb he=>(h Z H m zGN hp hb he).mono fun o ⟨Z',m',env',ph',a,b,c,d,e⟩=>⟨Z',m',env',ph',a,b,c,d,hq _ _ _ e⟩
inductive WkP:List PV->List PV->Prop
 | nil:WkP [] []
 | same {x:PV} {l m:List PV} (h:WkP l m):WkP (x::l) (x::m)
 | any {x:PV} {l m:List PV} (h:WkP l m):WkP (x::l) (.unk::m)
theorem WkP.refl:∀ (l:List PV),WkP l l
 | []=>.nil
 | _::l=>.same (WkP.refl l)
theorem WkP.rel {Z:Nat->Prop}{H:IH}{M:Nat->Option (Nat×PO)}{l m:List PV}(h:WkP l m):∀ {vs:List Value},VRL P Z H M l vs->VRL P Z H M m vs:=by
 induction h with
 | nil=>intro vs hx;exact hx
 | same _ ih=>intro vs hx;obtain⟨v,vs',rfl,h1,h2⟩:=hx.zGP;exact .cons h1 (ih h2)
 | any _ ih=>intro vs hx;obtain⟨v,vs',rfl,h1,h2⟩:=hx.zGP;exact .cons .unk (ih h2)
def pK (p q:PHp):Prop:=∀ k ob,qA k p=some ob->qA k q=some ob
theorem pK.refl (p:PHp):pK p p:=fun _ _ h=>h
theorem pK.nil (p:PHp):pK [] p:=fun _ _ h=>by cases h
theorem pK.skip {p:PHp}(h:pK p q)(hk:qA k p=none):pK p ((k,ob)::q):=fun j o hj=>by
 show cond (j==k) (some ob) (qA j q)=some o;by_cases e:j=k
 ·subst e;rw[hk] at hj;cases hj
 ·have:(j==k)=false:=by simpa using e
  rw[this];exact h j o hj
theorem pK.cons {p:PHp}(h:pK p q):pK ((k,ob)::p) ((k,ob)::q):=fun j o hj=>by
 show cond (j==k) (some ob) (qA j q)=some o;have hj:cond (j==k) (some ob) (qA j p)=some o:=hj
 cases e:(j==k) with
 | true=>rw[e] at hj;exact hj
 | false=>rw[e] at hj;exact h j o hj
theorem Runs.pre {c:Code}{zGS:List PV}{ph1:PHp}{Q:PQ}(hw:WkP env zGS)(hs:pK ph1 ph)(h:Runs P G rd nm c zGS ph1 Q):Runs P G rd nm c env ph Q:=by
 intro Z H m zGN hp hb he;have hf:=Fz.drop hp hs;refine (h Z H m zGN hf.hp hb (hw.rel (hf.vrl he))).mono ?_;rintro o ⟨Z',m',env',ph',a,b,c,d,e⟩;exact⟨Z',m',env',ph',a,b,hf.step.trans c,(hf.kr _).trans d,e⟩
def SQ (P:Program)(G:Nat->Bool)(rd:Bool)(nm:Nm)(y:Code)(Q:PQ):PQ:=fun e env ph=>match e with
 | .normal=>Runs P G rd nm y env ph Q
 | e=>Q e env ph
theorem SQ.go {Q:PQ}(h:Runs P G rd nm y env ph Q):SQ P G rd nm y Q .normal env ph:=h
theorem SQ.ex {Q:PQ}(h:Q (.exit id) env ph):SQ P G rd nm y Q (.exit id) env ph:=h
theorem Runs.seq {x:Code}{Q:PQ}(h:Runs P G rd nm x env ph (SQ P G rd nm y Q)):Runs P G rd nm (.seq x y) env ph Q:=by
 intro Z H m zGN hp hb he;refine .zML (h Z H m zGN hp hb he) ?_ ?_
 ·rintro o ⟨Z',m',env',ph',a,b,c,d,e⟩ hn;rw[hn] at e;refine (e Z' o.H m' o.env a (by rw[c.base];exact zQM hb c.size) b).mono ?_;rintro o2 ⟨Z2,m2,zG3,ph2,a2,b2,c2,d2,e2⟩;exact⟨Z2,m2,zG3,ph2,a2,b2,c.trans c2,d.trans d2,e2⟩
 ·rintro o ⟨Z',m',env',ph',a,b,c,d,e⟩ hn;refine⟨Z',m',env',ph',a,b,c,d,?_⟩
  cases ho:o.e with
  | normal=>exact absurd ho hn
  | exit id=>rw[ho] at e;exact e
  | goto l=>rw[ho] at e;exact e
  | ret=>rw[ho] at e;exact e
theorem Runs.cond {v:Operand}{x y:Code}{env:List PV}{ph:PHp}{Q:PQ}{t:Bool}(hok:jC G v=true)(hv:qJ env v=fvv (.bool t))(hx:t=true->Runs P G rd nm x env ph Q)(hy:t=false->Runs P G rd nm y env ph Q):Runs P G rd nm (.cond v x y) env ph Q:=by
 intro Z H m zGN hp hb he;have hr:=qK he v;rw[hv] at hr;exact .cond hok (yL hr rfl) (fun ht=>hx ht Z H m zGN hp hb he) (fun ht=>hy ht Z H m zGN hp hb he)
theorem Runs.skip {env:List PV}{ph:PHp}{Q:PQ}(h:Q .normal env ph):Runs P G rd nm .skip env ph Q :=
 fun Z H m zGN hp hb he=>.skip ⟨Z,m,env,ph,hp,he,.refl _ _ _,.refl _ _,h⟩
theorem Runs.label {l:Nat}{env:List PV}{ph:PHp}{Q:PQ}(h:Q .normal env ph):Runs P G rd nm (.label l) env ph Q :=
 fun Z H m zGN hp hb he=>.label ⟨Z,m,env,ph,hp,he,.refl _ _ _,.refl _ _,h⟩
theorem Runs.ret {env:List PV}{ph:PHp}{Q:PQ}(h:Q .ret env ph):Runs P G rd nm .ret env ph Q :=
 fun Z H m zGN hp hb he=>.ret ⟨Z,m,env,ph,hp,he,.refl _ _ _,.refl _ _,h⟩
theorem Runs.exit {id:Nat}{env:List PV}{ph:PHp}{Q:PQ}(h:Q (.exit id) env ph):Runs P G rd nm (.exit id) env ph Q :=
 fun Z H m zGN hp hb he=>.exit ⟨Z,m,env,ph,hp,he,.refl _ _ _,.refl _ _,h⟩
def BQ (id:Nat)(Q:PQ):PQ:=fun e env ph=>match e with
 | .exit i=>if i=id then Q .normal env ph else Q (.exit i) env ph
 | e=>Q e env ph
theorem BQ.go {Q:PQ}(h:Q .normal env ph):BQ id Q .normal env ph:=h
theorem BQ.ex {i:Nat}{Q:PQ}(hne:i≠id)(h:Q (.exit i) env ph):BQ id Q (.exit i) env ph:=by unfold BQ;simp only[if_neg hne];exact h
theorem Runs.block {id:Nat}{x:Code}{env:List PV}{ph:PHp}{Q:PQ}(h:Runs P G rd nm x env ph (BQ id Q)):Runs P G rd nm (.block id x) env ph Q:=by
 intro Z H m zGN hp hb he;refine .block ((h Z H m zGN hp hb he).mono ?_);rintro o ⟨Z',m',env',ph',a,b,c,d,e⟩;unfold qLH;unfold BQ at e
 cases ho:o.e with
 | normal=>rw[ho] at e;simp only;exact⟨Z',m',env',ph',a,b,c,d,by rw[ho];exact e⟩
 | goto l=>rw[ho] at e;simp only;exact⟨Z',m',env',ph',a,b,c,d,by rw[ho];exact e⟩
 | ret=>rw[ho] at e;simp only;exact⟨Z',m',env',ph',a,b,c,d,by rw[ho];exact e⟩
 | exit i =>
   rw[ho] at e;simp only at e ⊢;by_cases hi:i=id
   ·rw[if_pos hi] at e ⊢;exact⟨Z',m',env',ph',a,b,c,d,e⟩
   ·rw[if_neg hi] at e ⊢;exact⟨Z',m',env',ph',a,b,c,d,by rw[ho];exact e⟩
def j4 {σ ρ:Type}:Nat->(σ->Option (σ⊕ρ))->σ->Option ρ
 | 0,_,_=>none
 | n+1,f,s=>match f s with
   | some (.inl s')=>j4 n f s'
   | some (.inr r)=>some r
   | none=>none
theorem qFO {σ ρ:Type}{f:σ->Option (σ⊕ρ)}:∀ {n:Nat} {s:σ} {r:ρ},j4 n f s=some r->j4 (n+1) f s=some r
 | 0,_,_,h=>by cases h
 | n+1,s,r,h=>by
   unfold j4 at h ⊢
   cases hf:f s with
   | none=>rw[hf] at h;cases h
   | some x =>
     rw[hf] at h
     cases x with
     | inl s'=>exact qFO h
     | inr r=>exact h
theorem qQ2 {σ ρ:Type}{f:σ->Option (σ⊕ρ)}{s:σ}{r:ρ}(h:j4 n f s=some r)(hk:n<=k):j4 k f s=some r:=by
 induction hk with
 | refl=>exact h
 | step _ ih=>exact qFO ih
open Classical in
noncomputable def qIS {σ ρ:Type}(f:σ->Option (σ⊕ρ))(s:σ):Option ρ:=if h:∃ r n,j4 n f s=some r then some (Classical.choose h) else none
noncomputable def qY2 {σ ρ:Type}(f:σ->Option (σ⊕ρ))(n:Nat):σ->(σ->Option ρ)->Option ρ :=
 Nat.rec (fun s k=>k s) (fun _ ih s k=>Option.rec none (fun x=>Sum.rec (fun s'=>ih s' k) (fun r=>some r) x) (f s)) n
noncomputable def zH {σ ρ:Type}(f:σ->Option (σ⊕ρ))(s:σ):Option ρ:=qY2 f 1000000 s fun s=>qIS f s
theorem q3I {σ ρ:Type}{f:σ->Option (σ⊕ρ)}{s:σ}{r:ρ}(h:j4 n f s=some r):qIS f s=some r:=by
 have he:∃ r n,j4 n f s=some r:=⟨r,n,h⟩
 unfold qIS;rw[dif_pos he];obtain⟨k,hk⟩:=Classical.choose_spec he;have h1:=qQ2 h (Nat.le_max_left n k);have h2:=qQ2 hk (Nat.le_max_right n k);rw[h1] at h2;exact h2.symm
theorem qXG {σ ρ:Type}{f:σ->Option (σ⊕ρ)}{s:σ}{r:ρ}(h:qIS f s=some r):∃ n,j4 n f s=some r:=by
 unfold qIS at h;split at h
 ·rename_i he;cases h;exact Classical.choose_spec he
 ·cases h
theorem qP7 {σ ρ:Type}{f:σ->Option (σ⊕ρ)}{r:ρ}:∀ (k:Nat) {n:Nat} {s:σ},j4 n f s=some r->qY2 f k s (fun s=>qIS f s)=some r
 | 0,_,_,h=>q3I h
 | _+1,0,_,h=>by cases h
 | k+1,n+1,s,h=>by
   unfold j4 at h;show Option.rec none (fun x=>Sum.rec (fun s'=>qY2 f k s' fun s=>qIS f s) (fun r=>some r) x) (f s)=some r
   cases hf:f s with
   | none=>rw[hf] at h;cases h
   | some x =>
     rw[hf] at h
     cases x with
     | inl s'=>exact qP7 k h
     | inr r=>exact h
theorem qKX {σ ρ:Type}{f:σ->Option (σ⊕ρ)}{r:ρ}:∀ (k:Nat) {s:σ},qY2 f k s (fun s=>qIS f s)=some r->∃ n,j4 n f s=some r
 | 0,_,h=>qXG h
 | k+1,s,h=>by
   have h:Option.rec none (fun x=>Sum.rec (fun s'=>qY2 f k s' fun s=>qIS f s) (fun r=>some r) x) (f s)=some r:=h
   cases hf:f s with
   | none=>rw[hf] at h;cases h
   | some x =>
     rw[hf] at h
     cases x with
     | inl s'=>obtain⟨n,hn⟩:=qKX k h;exact⟨n+1,by unfold j4;rw[hf];exact hn⟩
     | inr r'=>exact⟨1,by unfold j4;rw[hf];exact h⟩
theorem qH0 {σ ρ:Type}{f:σ->Option (σ⊕ρ)}{s:σ}{r:ρ}(h:j4 n f s=some r):zH f s=some r:=qP7 _ h
theorem gP {σ ρ:Type}{f:σ->Option (σ⊕ρ)}{s:σ}{r:ρ}(h:zH f s=some r):∃ n,j4 n f s=some r:=qKX _ h
theorem wN {σ ρ:Type}(f:σ->Option (σ⊕ρ))(s:σ):zH f s=(match f s with
 | some (.inl s')=>zH f s'
 | some (.inr r)=>some r
 | none=>none):=by
 cases hf:f s with
 | none =>
   cases hl:zH f s with
   | none=>rfl
   | some r =>
     obtain⟨n,hn⟩:=gP hl
     cases n with
     | zero=>cases hn
     | succ n=>unfold j4 at hn;rw[hf] at hn;cases hn
 | some x =>
   cases x with
   | inr r=>exact qH0 (n:=1) (by unfold j4;rw[hf])
   | inl s' =>
     simp only
     cases hl:zH f s' with
     | some r =>
       obtain⟨n,hn⟩:=gP hl;exact qH0 (n:=n+1) (by unfold j4;rw[hf];exact hn)
     | none =>
       cases hl2:zH f s with
       | none=>rfl
       | some r =>
         obtain⟨n,hn⟩:=gP hl2
         cases n with
         | zero=>cases hn
         | succ n=>unfold j4 at hn;rw[hf] at hn;rw[qH0 hn] at hl;cases hl
def RQ {σ ρ:Type}(E:σ->List PV)(Ph:σ->PHp)(id:Nat)(r:ρ)(Q:PQ)(x:σ⊕ρ):PQ:=fun e env ph=>match x with
 | .inl s'=>e=.normal∧WkP env (E s')∧pK (Ph s') ph
 | .inr r'=>r'=r->e≠.normal∧BQ id Q e env ph
theorem Runs.loop {σ ρ:Type}(E:σ->List PV)(Ph:σ->PHp){step:σ->Option (σ⊕ρ)}{s0:σ}{r:ρ}(hr:zH step s0=some r){id:Nat}{x:Code}{env:List PV}{ph:PHp}{Q:PQ}(hw:WkP env (E s0))(hs:pK (Ph s0) ph)
 (hx:∀ s y,step s=some y->Runs P G rd nm x (E s) (Ph s) (RQ E Ph id r Q y)):Runs P G rd nm (.block id (.loop x)) env ph Q:=by
 obtain⟨n,hn⟩:=gP hr;refine .pre hw hs (.block ?_);intro Z H m zGN hp hb he;refine .loop (fun n zHX H1=>∃ s Z1 m1,j4 n step s=some r∧Hp P Z1 H1 (own m1 (Ph s))∧VRL P Z1 H1 (own m1 (Ph s)) (E s) zHX∧Step Z H (own m (Ph s0)) Z1 H1 (own m1 (Ph s))∧KR (inP nm) (own m (Ph s0)) (own m1 (Ph s))) ?_ (n:=n) ⟨s0,Z,m,hn,hp,he,.refl _ _ _,.refl _ _⟩;rintro n1 zHX H1 ⟨s,Z1,m1,q1,q2,q3,q4,q5⟩
 cases n1 with
 | zero=>cases q1
 | succ n1 =>
   unfold j4 at q1
   cases hf:step s with
   | none=>rw[hf] at q1;cases q1
   | some y =>
     rw[hf] at q1;refine (hx s y hf Z1 H1 m1 zHX q2 (by rw[q4.base];exact zQM hb q4.size) q3).mono ?_;rintro o ⟨Z2,m2,zG3,ph2,a,b,c,d,e⟩
     cases y with
     | inl s' =>
       obtain⟨e1,e2,e3⟩:=e;rw[e1];simp only;have hfz:=Fz.drop a e3;exact⟨n1,zQY _,s',Z2,m2,q1,hfz.hp,e2.rel (hfz.vrl b),(q4.trans c).trans hfz.step,(q5.trans d).trans (hfz.kr _)⟩
     | inr r' =>
       simp only[zP7] at q1;subst q1;obtain⟨e1,e2⟩:=e rfl
       cases ho:o.e with
       | normal=>exact absurd ho e1
       | exit i=>simp only;exact⟨Z2,m2,zG3,ph2,a,b,q4.trans c,q5.trans d,by rw[ho] at e2;exact e2⟩
       | goto l=>simp only;exact⟨Z2,m2,zG3,ph2,a,b,q4.trans c,q5.trans d,by rw[ho] at e2;exact e2⟩
       | ret=>simp only;exact⟨Z2,m2,zG3,ph2,a,b,q4.trans c,q5.trans d,by rw[ho] at e2;exact e2⟩
end Go.Idl
namespace Go.Idl
variable [Gc]
variable {P:Program}{G:Nat->Bool}{nat:xJ}{tab:uZ}{nm:Nm}{good:FuncId->Bool}{Z:Nat->Prop}{H:IH}{M:Nat->Option (Nat×PO)}
variable {env xs:List PV}{g:FuncId}{zGN:Env}{m:Nat->Nat}{ph:PHp}{v:Value}{vs:List Value}{x y:PV}
theorem FR.inter {Z0:Nat->Prop}{x:FV}(h0:FR Z0 H x v):∀ {S:(Nat->Prop)->Prop},(∀ Z,S Z->FR Z H x v)->FR (fun b=>∀ Z,S Z->Z b) H x v:=by
 induction h0 with
 | v hp h1=>exact fun _=>.v hp h1
 | nil h0 hs=>exact fun _=>.nil h0 hs
 | @l el n cs b o sp c vs hz hb hn hs hl hc ih =>
   intro S hS;by_cases he:cs=[]∧n=0
   ·obtain⟨rfl,rfl⟩:=he;exact .nil (fun h=>by cases h) (fun x h=>by cases h;exact hs)
   ·refine .l (fun Z hZ=>?_) hb hn hs hl fun i x v h1 h2=>ih i x v h1 h2 fun Z hZ=>?_
    ·cases hS Z hZ with
     | nil=>exact absurd ⟨rfl,rfl⟩ he
     | l hz=>exact hz
    ·cases hS Z hZ with
     | nil=>simp at h1
     | l _ _ _ _ hl' hc' =>
       rw[hl] at hl';cases hl';exact hc' i x v h1 h2
theorem VR.inter {Z0:Nat->Prop}{x:PV}{v:Value}(h0:VR P Z0 H (fun _=>none) x v):∀ {S:(Nat->Prop)->Prop},(∀ Z,S Z->VR P Z H (fun _=>none) x v)->VR P (fun b=>∀ Z,S Z->Z b) H (fun _=>none) x v:=by
 induction h0 with
 | f h=>exact fun hS=>.f (h.inter fun Z hZ=>by cases hS Z hZ with | f h=>exact h)
 | agg hl hc ih=>exact fun hS=>.agg hl fun i x v h1 h2=>ih i x v h1 h2 fun Z hZ=>by cases hS Z hZ with | agg _ hc'=>exact hc' i x v h1 h2
 | tup hl hc ih=>exact fun hS=>.tup hl fun i x v h1 h2=>ih i x v h1 h2 fun Z hZ=>by cases hS Z hZ with | tup _ hc'=>exact hc' i x v h1 h2
 | own h1 h=>exact fun _=>.own h1 fun b ob hM=>by cases hM
 | ref h1 h=>exact fun _=>.ref h1 fun b ob hM=>by cases hM
 | mp h1 h=>exact fun _=>.mp h1 fun b ob hM=>by cases hM
 | asl h1 h=>exact fun _=>.asl h1 fun b ob hM=>by cases hM
 | @lp cs off b o vs hz hb hl hc =>
   intro S hS
   have key:∀ Z,S Z->∃ b' o' vs',b'=b∧o'=o∧Z b'∧H.loads b' o' cs.length=some vs'∧∀ (i:Nat) x v,cs[i]?=some x->vs'[i]?=some v->FR Z H x v:=fun Z hZ=>by
    generalize hq:(Value.pointer (some ⟨b,o+off,none⟩))=q at hS;have h:=hS Z hZ
    cases h with
    | lp hz' hb' hl' hc' =>
      simp only[Value.pointer.injEq,zP7,Addr.mk.injEq,and_true] at hq;obtain⟨rfl,hq⟩:=hq;exact⟨_,_,_,rfl,by omega,hz',hl',hc'⟩
   refine .lp (fun Z hZ=>?_) hb hl fun i x v h1 h2=>(hc i x v h1 h2).inter fun Z hZ=>?_
   ·obtain⟨b',o',vs',rfl,rfl,q,_⟩:=key Z hZ;exact q
   ·obtain⟨b',o',vs',rfl,rfl,_,q2,q3⟩:=key Z hZ;rw[hl] at q2;cases q2;exact q3 i x v h1 h2
 | fn hf hc hfc hcc i1 i2=>exact fun hS=>.fn hf hc (fun i x v h1 h2=>i1 i x v h1 h2 fun Z hZ=>by cases hS Z hZ with | fn _ _ q _=>exact q i x v h1 h2) (fun i x v h1 h2=>i2 i x v h1 h2 fun Z hZ=>by cases hS Z hZ with | fn _ _ _ q=>exact q i x v h1 h2)
 | yl=>exact fun _=>.yl
 | bq=>exact fun _=>.bq
 | unk=>exact fun _=>.unk
def q6O (P:Program)(H:IH)(xs:List PV)(vs:List Value):Nat->Prop:=fun b=>∀ Z,VRL P Z H (fun _=>none) xs vs->Z b
theorem q9R (h:VRL P Z H (fun _=>none) xs vs):VRL P (q6O P H xs vs) H (fun _=>none) xs vs :=
 ⟨h.len,fun i x v h1 h2=>(h.val i x v h1 h2).inter (S:=fun Z=>VRL P Z H (fun _=>none) xs vs) fun Z hZ=>hZ.val i x v h1 h2⟩
theorem qYJ (h:VRL P Z H (fun _=>none) xs vs){b:Nat}(hb:q6O P H xs vs b):Z b:=hb Z h
noncomputable def q1C (P:Program)(env:List PV)(ph:PHp):ResultVar->Option PV
 | .tmp t=>some ((zG env t).getD .unk)
 | .cell a t=>fJ P t ((zG env a).getD .unk) ph
noncomputable def qGV (P:Program)(env:List PV)(ph:PHp):List ResultVar->Option (List PV)
 | []=>some []
 | r::l=>match q1C P env ph r with
   | some v=>(match qGV P env ph l with
     | some vs=>some (v::vs)
     | none=>none)
   | none=>none
def qEE:List PV->PV
 | [v]=>v
 | vs=>.tup vs
noncomputable def wK (P:Program)(fn:Func)(env:List PV)(ph:PHp):Option PV:=(qGV P env ph fn.results.toList).map fun xs=>qEE (rtL (rt1 P) fn.resultTypes.toList xs)
theorem q2X {r:ResultVar}(hp:Hp P Z H (own m ph))(he:VRL P Z H (own m ph) env zGN)(h:q1C P env ph r=some x):∃ v,q1M P zGN H r=some v∧VR P Z H (own m ph) x v:=by
 cases r with
 | tmp t=>cases h;exact⟨_,rfl,qK he (.tmp t)⟩
 | cell a t=>exact qQB hp (qK he (.tmp a)) h
theorem qQY {m:Nat->Nat}{ph:PHp}{env:List PV}{zGN:Env}(hp:Hp P Z H (own m ph))(he:VRL P Z H (own m ph) env zGN):∀ {l:List ResultVar} {xs:List PV},qGV P env ph l=some xs->∃ vs,qOT P zGN H l=some vs∧VRL P Z H (own m ph) xs vs
 | [],xs,h=>by cases h;exact⟨[],rfl,.nil⟩
 | r::l,xs,h=>by
   unfold qGV at h;split at h
   ·rename_i x hx;split at h
    ·rename_i xs' hxs;cases h;obtain⟨v,h1,h2⟩:=q2X hp he hx;obtain⟨vs,h3,h4⟩:=qQY hp he hxs;exact⟨v::vs,by unfold qOT;rw[h1,h3],.cons h2 h4⟩
    ·cases h
   ·cases h
theorem nL {fn:Func}(hp:Hp P Z H (own m ph))(he:VRL P Z H (own m ph) env zGN)(h:wK P fn env ph=some x):∃ v,vG P fn zGN H=some v∧VR P Z H (own m ph) x v:=by
 unfold wK at h;obtain⟨xs,h1,rfl⟩:=zP9.1 h;obtain⟨vs,h2,h3⟩:=qQY hp he h1
 replace h3:=qFG (f:=rt1 P) (ts:=fn.resultTypes.toList) (fun t x v h=>qET h) h3
 revert h3
 generalize rtL (rt1 P) fn.resultTypes.toList xs=xs;intro h3;refine⟨one vs,by unfold vG;rw[h2];rfl,?_⟩
 match xs,h3 with
 | [],h3=>rw[h3.zGT];exact VRL.zI5 (vs:=#[]) .nil
 | [x],h3 =>
   obtain⟨v,vs',rfl,a,b⟩:=h3.zGP;rw[b.zGT];exact a
 | x::y::l,h3 =>
   obtain⟨v,vs',rfl,a,b⟩:=h3.zGP;obtain⟨v2,vs2,rfl,a2,b2⟩:=b.zGP;exact VRL.zI5 (vs:=(v::v2::vs2).toArray) (by simpa using VRL.cons a (VRL.cons a2 b2))
noncomputable def fzR (P:Program)(ph:PHp):PV->Option PV
 | .tup xs=>(match fzA P xs ph with
   | some (ys,_)=>some (.tup ys)
   | none=>none)
 | x=>(match fzP P ph x with
   | some (y,_)=>some y
   | none=>none)
theorem zBP (hp:Hp P Z H (own m ph))(hx:VR P Z H (own m ph) x v)(h:fzR P ph x=some y):∃ Z' ph',Fz P Z H m ph Z' ph'∧VR P Z' H (fun _=>none) y v:=by
 unfold fzR at h;split at h
 ·split at h
  ·rename_i ys ph' hf;cases h;obtain⟨vs,rfl,hr⟩:=hx.zK4;obtain⟨Z',h1,h2⟩:=qKT hp hr hf;exact⟨Z',ph',h1,h2.zI5⟩
  ·cases h
 ·split at h
  ·rename_i y' ph' hf;cases h;obtain⟨Z',h1,h2⟩:=qJI hp hx hf;exact⟨Z',ph',h1,h2⟩
  ·cases h
structure PEn (α:Type) where
 p:α->PV
 inj:∀ x y,p x=p y->x=y
 uniq:∀ (P:Program) (Z Z':Nat->Prop) (H:IH) (x y:α) (v:Value),VR P Z H (fun _=>none) (p x) v->VR P Z' H (fun _=>none) (p y) v->x=y
structure AEn (α:Type) where
 p:α->List PV
 inj:∀ x y,p x=p y->x=y
 uniq:∀ (P:Program) (Z Z':Nat->Prop) (H:IH) (x y:α) (vs:List Value),VRL P Z H (fun _=>none) (p x) vs->VRL P Z' H (fun _=>none) (p y) vs->x=y
def AEn.nil:AEn Unit:=⟨fun _=>[],fun _ _ _=>rfl,fun _ _ _ _ _ _ _ _ _=>rfl⟩
def AEn.cons {α β:Type}(a:PEn α)(b:AEn β):AEn (α×β):=⟨fun x=>a.p x.1::b.p x.2,fun x y h=>by
 simp only[zQQ] at h
 exact Prod.ext (a.inj _ _ h.1) (b.inj _ _ h.2),fun P Z Z' H x y vs h1 h2=>by
 obtain⟨v,vs',rfl,a1,b1⟩:=h1.zGP;obtain⟨v',vs2,e,a2,b2⟩:=h2.zGP;simp only[zQQ] at e;obtain⟨rfl,rfl⟩:=e
 exact Prod.ext (a.uniq P Z Z' H _ _ _ a1 a2) (b.uniq P Z Z' H _ _ _ b1 b2)⟩
open Classical in
noncomputable def ofF {α β:Type}(a:AEn α)(F:α->Option β)(r:β->PV)(xs:List PV):Option PV :=
 if h:∃ x,xs=a.p x then (F (Classical.choose h)).map r else none
theorem qR2 {α β:Type}{a:AEn α}{F:α->Option β}{r:β->PV}(x:α):ofF a F r (a.p x)=(F x).map r:=by
 have h:∃ y,a.p x=a.p y:=⟨x,rfl⟩
 unfold ofF;rw[dif_pos h];rw[<-a.inj _ _ (Classical.choose_spec h)]
theorem qU3 {α β:Type}{a:AEn α}{F:α->Option β}{r:β->PV}(h:ofF a F r xs=some y):∃ x z,xs=a.p x∧F x=some z∧y=r z:=by
 unfold ofF at h;split at h
 ·rename_i he;obtain⟨z,h1,h2⟩:=zP9.1 h;exact⟨_,z,Classical.choose_spec he,h1,h2.symm⟩
 ·cases h
def q4T (tab:uZ)(g:FuncId)(F:List PV->Option PV):uZ:=fun x xs=>cond (Nat.beq x g) (F xs) (tab x xs)
def zAX {α β:Type}(P:Program)(a:AEn α)(F:α->Option β)(x:α)(args:List Value)(H:IH):Prop:=(∃ Z:Nat->Prop,VRL P Z H (fun _=>none) (a.p x) args∧∀ b,Z b->b < H.size)∧H.base<=H.size∧GlH H∧∃ y,F x=some y
def q30 {α β:Type}(P:Program)(a:AEn α)(F:α->Option β)(r:β->PV)(x:α)(args:List Value)(H:IH)(v:Value)(H':IH):Prop:=Old H H'∧∃ y,F x=some y∧∃ Z':Nat->Prop,(∀ b,Z' b->b < H'.size)∧(∀ b,Z' b->b < H.size->q6O P H (a.p x) args b∨zCO b)∧VR P Z' H' (fun _=>none) (r y) v
def zFS {α β:Type}(P:Program)(G:Nat->Bool)(g:FuncId)(nm:Nm)(a:AEn α)(F:α->Option β)(r:β->PV):Prop :=
 ∃ fn c,P.funcs[g]?=some fn∧fn.body=some c∧∀ x y,F x=some y->∃ N,fn.ntmps=N∧Runs P G false nm c (a.p x++List.replicate (N - (a.p x).length) .unk) [] fun e env ph=>(e=.normal∨e=.ret)∧∃ r0,wK P fn env ph=some r0∧fzR P ph r0=some (r y)
theorem zHK.zID {α β:Type}(s:zHK P good nat G tab)(a:AEn α)(F:α->Option β)(r:β->PV)(hent:enters P g=true)(hfr:∀ y,q9C (r y)=true)
 (h:∀ (x:α) (y:β) (args:List Value) (H:IH),F x=some y->(∃ Z:Nat->Prop,VRL P Z H (fun _=>none) (a.p x) args∧∀ b,Z b->b < H.size)->H.base<=H.size->GlH H->gD P G g args H fun q=>q30 P a F r x args H q.1 q.2) :
 zHK P good (zIM nat g (fun (x:α×List Value) args H=>x.2=args∧zAX P a F x.1 args H) (fun x H v H'=>q30 P a F r x.1 x.2 H v H')) G (q4T tab g (ofF a F r)):=by
 have uniq:∀ (x y:α×List Value) (args:List Value) (H:IH),(x.2=args∧zAX P a F x.1 args H)->(y.2=args∧zAX P a F y.1 args H)->x=y:=by
  rintro⟨x,as⟩ ⟨y,bs⟩ args H ⟨e1,⟨Z1,h1,_⟩,_⟩ ⟨e2,⟨Z2,h2,_⟩,_⟩;simp only at e1 e2 h1 h2;subst e1 e2;rw[a.uniq P Z1 Z2 H x y _ h1 h2]
 refine⟨s.s.zIM _ _ ?_,?_⟩
 ·rintro⟨x,as⟩ args H ⟨e1,⟨Z0,h0,hz0⟩,hb,hgl,y,hy⟩;simp only at e1 h0 hy;subst e1;exact h x y as H hy ⟨Z0,h0,hz0⟩ hb hgl
 ·intro g' zIQ r' ht;unfold q4T at ht
  cases hg:Nat.beq g' g with
  | false =>
    rw[hg] at ht;obtain⟨t1,t2,k,t3,t4⟩:=s.t g' zIQ r' ht;refine⟨t1,t2,k,?_,t4⟩;unfold zIM;rw[hg];exact t3
  | true =>
    rw[hg] at ht;have hg':g'=g:=zPZ hg;subst hg';obtain⟨x,y,rfl,hF,rfl⟩:=qU3 ht;refine⟨hent,hfr y,_,by unfold zIM;rw[hg];rfl,?_⟩;intro Z H args hv hz hb hgl Q hQ
    have hpre:(fun (x:α×List Value) args H=>x.2=args∧zAX P a F x.1 args H) (x,args) args H:=⟨rfl,⟨Z,hv,hz⟩,hb,hgl.h hz,y,hF⟩
    rw[zCB uniq hpre];rintro⟨v,H'⟩ ⟨o1,y',hy',Z',o2,o3,o4⟩;simp only at hy' o4;rw[hF] at hy';cases hy';refine hQ v H' (fun b=>Z b∨Z' b) o1 (fun b h=>.inl h) ?_ ?_ ?_
    ·rintro b (h | h)
     ·exact zP3 (hz b h) o1.size
     ·exact o2 b h
    ·rintro b (h | h) hlt
     ·exact h
     ·rcases o3 b h hlt with q | ⟨o,q⟩
      ·exact qYJ hv q
      ·exact (hgl b o q).1
    ·exact o4.mono (p:=fun _=>false) (fun _ h=>.inr h) (zP0 _) (fun _ _ _=>rfl) (.refl _ _) fun j hj=>by cases hj
theorem zHK.add {α β:Type}(s:zHK P good nat G tab){nm:Nm}(a:AEn α)(F:α->Option β)(r:β->PV)(hent:enters P g=true)(hfr:∀ y,q9C (r y)=true)(h:zFS P G g nm a F r) :
 zHK P good (zIM nat g (fun (x:α×List Value) args H=>x.2=args∧zAX P a F x.1 args H) (fun x H v H'=>q30 P a F r x.1 x.2 H v H')) G (q4T tab g (ofF a F r)) :=
 s.zID a F r hent hfr fun x y as H hy ⟨Z0,h0,hz0⟩ hb hgl=>by
  obtain⟨fn,c,q1,q2,q3⟩:=h;obtain⟨N,hN,hrun⟩:=q3 x y hy;have hf:=(q9R h0).mono (p:=fun _=>false) (Z':=fun b=>q6O P H (a.p x) as b∨zCO b) (fun _ h=>.inl h) (zP0 _) (fun _ _ _=>rfl) (.refl _ _) (fun j hj=>by cases hj)
  have zN0:∀ b,q6O P H (a.p x) as b∨zCO b->b < H.size:=fun b hb=>by
   rcases hb with hb | ⟨o,hb⟩
   ·exact hz0 b (qYJ h0 hb)
   ·exact (hgl b o hb).1
  refine gD.of q1 q2 hN ?_
  have hp0:Hp P (fun b=>q6O P H (a.p x) as b∨zCO b) H (own (fun _=>0) []):=⟨zN0,fun k b ob hk=>(by cases hk),fun k k' b b' ob ob' hk=>(by cases hk),fun g o hg=>⟨.inr ⟨o,hg⟩,(hgl g o hg).2⟩⟩
  have e0:own (fun _=>0) []=fun _=>none:=rfl
  have hlen:=h0.len
  have zGV:VRL P (fun b=>q6O P H (a.p x) as b∨zCO b) H (own (fun _=>0) []) (a.p x++List.replicate (N - (a.p x).length) .unk) (as++List.replicate (N - as.length) undef):=by
   rw[hlen];refine VRL.append hf ⟨by simp,fun i z v h1 h2=>?_⟩;rw[zR7] at h1;split at h1
   ·cases h1;exact .unk
   ·cases h1
  refine (hrun _ H _ _ hp0 hb zGV).mono ?_;rintro o ⟨Z',m',env',ph',a1,b1,c1,d1,he,r0,hr0,hfz⟩;refine⟨he,?_⟩;obtain⟨v,v1,v2⟩:=nL a1 b1 hr0;obtain⟨Z2,ph2,w1,w2⟩:=zBP a1 v2 hfz;have noO:∀ b,¬ dK (own (fun _=>0) []) b:=fun b ⟨k,ob,hk,_⟩=>by cases hk
  refine⟨v,v1,⟨c1.size,c1.base,fun b hb=>c1.keep b hb (noO b)⟩,y,hy,Z2,w1.hp.zlt,fun b hb hlt=>?_,w2⟩;rcases w1.zHP b hb with h | h
  ·rcases c1.zHP b h hlt with h | h
   ·exact h
   ·exact absurd h (noO b)
  ·exact absurd (c1.onew b h hlt) (noO b)
end Go.Idl
namespace Go.Idl
variable [Gc]
variable {P:Program}{G:Nat->Bool}{nat:xJ}{tab:uZ}{inl:FuncId->Bool}{nm:Nm}{good:FuncId->Bool}{Z:Nat->Prop}{H:IH}{M:Nat->Option (Nat×PO)}
variable {args:List PV}{c:Int}{ph':PHp}{v:Value}{w:Bool}{ws:List Value}{xs:List FV}
structure C1 (α:Type) where
 f:α->FV
 inj:∀ x y,f x=f y->x=y
 uniq:∀ (Z Z':Nat->Prop) (H:IH) (x y:α) (v:Value),FR Z H (f x) v->FR Z' H (f y) v->x=y
structure CN (α:Type) where
 f:α->List FV
 k:Nat
 len:∀ x,(f x).length=k
 inj:∀ x y,f x=f y->x=y
 uniq:∀ (Z Z':Nat->Prop) (H:IH) (x y:α) (vs:List Value),FRL Z H (f x) vs->FRL Z' H (f y) vs->x=y
theorem qML {x:Value}(h:FR Z H (.v x) v):v=x:=by cases h;rfl
def C1.plain {α:Type}(g:α->Value)(hi:∀ x y,g x=g y->x=y):C1 α:=⟨fun x=>.v (g x),fun x y h=>hi x y (by injection h),fun Z Z' H x y v a b=>hi x y ((qML a).symm.trans (qML b))⟩
def C1.int (k:IntKind):C1 Int:=.plain (fun z=>.int k z) fun x y h=>by injection h
def C1.bool:C1 Bool:=.plain (fun z=>.bool z) fun x y h=>by injection h
theorem FRL.zGP {x:FV}(h:FRL Z H (x::xs) ws):∃ v vs,ws=v::vs∧FR Z H x v∧FRL Z H xs vs:=by
 cases ws with
 | nil=>have:=h.len;simp at this
 | cons v vs=>exact⟨v,vs,rfl,h.val 0 x v rfl rfl,by have:=h.len;simpa using this,fun i y u h1 h2=>h.val (i+1) y u (by simpa using h1) (by simpa using h2)⟩
theorem FRL.split {ys:List FV}(h:FRL Z H (xs++ys) ws):FRL Z H xs (ws.take xs.length)∧FRL Z H ys (ws.drop xs.length):=by
 have hl:=h.len;rw[zQL] at hl;refine⟨⟨by simp;omega,fun i x v h1 h2=>?_⟩,⟨by simp;omega,fun i x v h1 h2=>?_⟩⟩
 ·have hi:=(zP4.1 h1).1;rw[zRN,if_pos hi] at h2;exact h.val i x v (by rw[zRM hi];exact h1) h2
 ·rw[zRQ] at h2;exact h.val (xs.length+i) x v (by rw[zRK (by omega)];simpa using h1) h2
theorem qRG {α:Type}(c:C1 α){Z':Nat->Prop}:∀ (xs ys:List α) (vs:List Value),FRL Z H (xs.map c.f) vs->FRL Z' H (ys.map c.f) vs->xs=ys
 | [],[],_,_,_=>rfl
 | [],y::ys,vs,a,b=>by have h1:=a.len;have h2:=b.len;simp at h1 h2;omega
 | x::xs,[],vs,a,b=>by have h1:=a.len;have h2:=b.len;simp at h1 h2;omega
 | x::xs,y::ys,vs,a,b=>by
   obtain⟨v,vs',rfl,a1,a2⟩:=a.zGP;obtain⟨v',vs2,e,b1,b2⟩:=b.zGP;simp only[zQQ] at e;obtain⟨rfl,rfl⟩:=e;rw[c.uniq _ _ H x y _ a1 b1,qRG c xs ys _ a2 b2]
theorem map_inj {α:Type}(c:C1 α):∀ (xs ys:List α),xs.map c.f=ys.map c.f->xs=ys
 | [],[],_=>rfl
 | [],y::ys,h=>by cases h
 | x::xs,[],h=>by cases h
 | x::xs,y::ys,h=>by
   simp only[zQG,zQQ] at h;rw[c.inj x y h.1,map_inj c xs ys h.2]
theorem oZ {el n n':Nat}{cs cs':List FV}{Z':Nat->Prop}(a:FR Z H (.l el n cs) v)(b:FR Z' H (.l el n' cs') v):n=n'∧∃ vs vs',FRL Z H cs vs∧FRL Z' H cs' vs'∧(cs.length=cs'.length->vs=vs'):=by
 cases a with
 | nil h0 hs =>
   cases b with
   | nil=>exact⟨rfl,[],[],⟨rfl,fun i x v h=>by simp at h⟩,⟨rfl,fun i x v h=>by simp at h⟩,fun _=>rfl⟩
   | l hz hb hn hs' hl hc=>exact⟨rfl,[],_,⟨rfl,fun i x v h=>by simp at h⟩,⟨(kJ hl).symm,hc⟩,fun e=>by
      have:=kJ hl;rw[<-e] at this
      exact (zQ9.1 this).symm⟩
 | l hz hb hn hs hl hc =>
   cases b with
   | nil=>exact⟨rfl,_,[],⟨(kJ hl).symm,hc⟩,⟨rfl,fun i x v h=>by simp at h⟩,fun e=>by
      have:=kJ hl;rw[e] at this
      exact zQ9.1 this⟩
   | l hz' hb' hn' hs' hl' hc'=>exact⟨rfl,_,_,⟨(kJ hl).symm,hc⟩,⟨(kJ hl').symm,hc'⟩,fun e=>by
      rw[e] at hl;rw[hl] at hl'
      exact zQZ hl'⟩
def C1.list {α:Type}(el:TypeId)(c:C1 α):C1 (List α):=⟨fun xs=>.l el xs.length (xs.map c.f),fun xs ys h=>map_inj c xs ys (by injection h),fun Z Z' H xs ys v a b=>by
 obtain⟨h1,vs,vs',h2,h3,h4⟩:=oZ a b;have:=h4 (by simp[h1]);subst this
 exact qRG c xs ys _ h2 h3⟩
def CN.one {α:Type}(c:C1 α):CN α:=⟨fun x=>[c.f x],1,fun _=>rfl,fun x y h=>c.inj x y (by injection h),fun Z Z' H x y vs a b=>by
 obtain⟨v,vs',rfl,a1,_⟩:=a.zGP;obtain⟨v',vs2,e,b1,_⟩:=b.zGP;simp only[zQQ] at e;obtain⟨rfl,rfl⟩:=e
 exact c.uniq _ _ H x y _ a1 b1⟩
def PEn.one {α:Type}(c:C1 α):PEn α:=⟨fun x=>.f (c.f x),fun x y h=>c.inj x y (by injection h),fun P Z Z' H x y v a b=>by
 cases a with
 | f a=>cases b with
   | f b=>exact c.uniq _ _ H x y v a b⟩
theorem zC9:∀ (l m:List FV),l.map PV.f=m.map PV.f->l=m
 | [],[],_=>rfl
 | [],y::m,h=>by cases h
 | x::l,[],h=>by cases h
 | x::l,y::m,h=>by
   simp only[zQG,zQQ,PV.f.injEq] at h;rw[h.1,zC9 l m h.2]
theorem qDI {vs:List Value}(h:VRL P Z H M (xs.map .f) vs):FRL Z H xs vs:=⟨by simpa using h.len,fun i x v h1 h2=>by
 have:=h.val i (.f x) v (by simp[h1]) h2
 cases this with
 | f h=>exact h⟩
section
variable {ds:List (Option Tmp)}{o:Oper}{l:List Oper}{env:List PV}{ph:PHp}
noncomputable def qS7 (P:Program)(tab:uZ)(inl:FuncId->Bool)(nm:Nm)(ds:List (Option Tmp))(o:Oper)(l:List Oper)(env:List PV)(ph:PHp):PE->PT
 | .fail=>.fail
 | .ok v ph'=>q9X (needs o.op) (qH nm o.dst) nm env ph (pops P tab inl nm ds l (yQ env o.dst v) ph')
 | .call g args ph'=>.call (qVV nm (qLF nm g env ph')) g args ph' fun v ph2=>.chk (clean (qVV nm (qLF nm g env ph')).p env ph2) (pops P tab inl nm ds l (yQ env o.dst v) ph2)
 | .rnd x args ph'=>.rnd x args ph' fun v ph2=>pops P tab inl nm ds l (yQ env o.dst v) ph2
noncomputable def pgo (P:Program)(tab:uZ)(inl:FuncId->Bool)(nm:Nm)(ds:List (Option Tmp))(o:Oper)(l:List Oper)(env:List PV)(ph:PHp)(c:Option Bool):PT :=
 vO c (qS7 P tab inl nm ds o l env ph (aU P tab inl (qH nm o.dst) o env ph)) (pops P tab inl nm ds l (yQ env o.dst (.tup [])) ph) .fail
theorem qWF:pops P tab inl nm ds (o::l) env ph=pgo P tab inl nm ds o l env ph (vK ds o env):=by
 unfold pops pgo qS7;cases aU P tab inl (qH nm o.dst) o env ph <;> rfl
theorem q0Z:pgo P tab inl nm ds o l env ph (some true)=qS7 P tab inl nm ds o l env ph (aU P tab inl (qH nm o.dst) o env ph):=Eq.trans rfl rfl
theorem qUT:pgo P tab inl nm ds o l env ph (some false)=pops P tab inl nm ds l (yQ env o.dst (.tup [])) ph:=Eq.trans rfl rfl
theorem qPP {v:PV}:qS7 P tab inl nm ds o l env ph (.ok v ph')=q9X (needs o.op) (qH nm o.dst) nm env ph (pops P tab inl nm ds l (yQ env o.dst v) ph'):=Eq.trans rfl rfl
theorem qSS {g:FuncId}:qS7 P tab inl nm ds o l env ph (.call g args ph')=.call (qVV nm (qLF nm g env ph')) g args ph' fun v ph2=>.chk (clean (qVV nm (qLF nm g env ph')).p env ph2) (pops P tab inl nm ds l (yQ env o.dst v) ph2):=Eq.trans rfl rfl
theorem qUU {x:Nat}:qS7 P tab inl nm ds o l env ph (.rnd x args ph')=.rnd x args ph' fun v ph2=>pops P tab inl nm ds l (yQ env o.dst v) ph2:=Eq.trans rfl rfl
noncomputable def qO7 (w:Bool):Option PV->Option Bool
 | some v=>qQ1 w v
 | none=>none
theorem qOF {t:Tmp}:qPG w env (some t)=qO7 w (zG env t):=by
 show (match zG env t with | some v=>qQ1 w v | none=>none)=qO7 w (zG env t);cases zG env t <;> rfl
theorem qBM {b:Bool}:qO7 w (some (fvv (.bool b)))=some (b==w):=rfl
theorem qT1:qO7 w (some (.tup []))=some false:=rfl
theorem aJ (n:Nat):Nat.beq n n=true:=by simp
end
section
variable {t t2:TypeId}{k:IntKind}{a b:Int}{ph:PHp}
theorem bO {op:BinOp}(h:eZ op k a b=some v)(hv:ofC v=fvv v):wR P op t t2 (fvv (.int k a)) (fvv (.int k b)) ph=some (fvv v):=by
 rw[<-hv];unfold wR;simp only[fvv,pl,zDD,cond_false];rw[q7N h];rfl
theorem zC5:wR P .lss t t2 (fvv (.int k a)) (fvv (.int k b)) ph=some (fvv (.bool (decide (a < b)))):=bO rfl rfl
theorem zB2:wR P .leq t t2 (fvv (.int k a)) (fvv (.int k b)) ph=some (fvv (.bool (decide (a<=b)))):=bO rfl rfl
theorem zA5:wR P .gtr t t2 (fvv (.int k a)) (fvv (.int k b)) ph=some (fvv (.bool (decide (b < a)))):=bO rfl rfl
theorem zAQ:wR P .geq t t2 (fvv (.int k a)) (fvv (.int k b)) ph=some (fvv (.bool (decide (b<=a)))):=bO rfl rfl
theorem zAM:wR P .eql t t2 (fvv (.int k a)) (fvv (.int k b)) ph=some (fvv (.bool (a==b))):=bO rfl rfl
theorem zC3:wR P .neq t t2 (fvv (.int k a)) (fvv (.int k b)) ph=some (fvv (.bool (a != b))):=bO rfl rfl
theorem zAR:wR P .add t t2 (fvv (.int k a)) (fvv (.int k b)) ph=some (fvv (.int k (k.wrap (a+b)))):=bO rfl rfl
theorem zCR:wR P .sub t t2 (fvv (.int k a)) (fvv (.int k b)) ph=some (fvv (.int k (k.wrap (a - b)))):=bO rfl rfl
theorem zC2:wR P .mul t t2 (fvv (.int k a)) (fvv (.int k b)) ph=some (fvv (.int k (k.wrap (a*b)))):=bO rfl rfl
def qZ7 (k:IntKind)(a b:Int):Option Int:=if b=0 then none else some (k.wrap (a.tdiv b))
def zDV (a b:Int):Option Int:=if b=0 then none else some (a.tmod b)
theorem zA9 (h:qZ7 k a b=some c):wR P .quo t t2 (fvv (.int k a)) (fvv (.int k b)) ph=some (fvv (.int k c)):=by
 unfold qZ7 at h;split at h
 ·cases h
 ·rename_i hb;cases h;exact bO (v:=.int k (k.wrap (a.tdiv b))) (by unfold eZ;simp only[if_neg hb]) rfl
theorem zBC (h:zDV a b=some c):wR P .rem t t2 (fvv (.int k a)) (fvv (.int k b)) ph=some (fvv (.int k c)):=by
 unfold zDV at h;split at h
 ·cases h
 ·rename_i hb;cases h;exact bO (v:=.int k (a.tmod b)) (by unfold eZ;simp only[if_neg hb]) rfl
theorem zAE {x:Bool}:bU P (fun a=>.unOp .not t a) (fvv (.bool x))=some (fvv (.bool !x)):=rfl
end
end Go.Idl
namespace Go.Idl
variable [Gc]
variable {P:Program}{G:Nat->Bool}{nat:xJ}{tab:uZ}{nm:Nm}
def dl1:PV->List Nat
 | .own k _ _ _=>[k]
 | .ref k _ _=>[k]
 | .mp k=>[k]
 | .asl _ k _=>[k]
 | _=>[]
noncomputable def dlO (o:Oper)(env:List PV):List Nat:=o.op.operands.toList.flatMap fun x=>dl1 (qJ env x)
theorem rV {o:Oper}{env:List PV}{x:Operand}{k:Nat}(hx:x∈o.op.operands)(hk:k∈dl1 (qJ env x)):k∈dlO o env:=List.mem_flatMap.2 ⟨x,zRC.1 hx,hk⟩
theorem qCH {env env':List PV}{ps:List (Nat×Operand)}(h:∀ x∈ps.map (·.2),qJ env x=qJ env' x):(ps.map fun p=>(p.1,qJ env p.2))=ps.map fun p=>(p.1,qJ env' p.2) :=
 zRJ fun p hp=>by rw[h p.2 (zQR.2 ⟨p,hp,rfl⟩)]
theorem qSU (P:Program){env env':List PV}{x:Operand}(h:qJ env x=qJ env' x)(ha:(pl (qJ env x)).isSome=true):(qSI env).val x=(qSI env').val x:=by
 obtain⟨a,ha⟩:=zQ5.1 ha;rw[dH P ha,dH P (h ▸ ha)]
theorem qK2 {b:Builtin}{args:Array Operand}{ts:Array TypeId}{env env':List PV}{ty:TypeId}{ph:PHp}(h:∀ x∈args,qJ env x=qJ env' x) :
 wC P b ⟨.builtin b,args,ts⟩ (args.toList.map (qJ env)) env ty ph=wC P b ⟨.builtin b,args,ts⟩ (args.toList.map (qJ env')) env' ty ph:=by
 have e:args.toList.map (qJ env)=args.toList.map (qJ env'):=zRJ fun x hx=>h x (zRC.2 hx)
 unfold wC;rw[<-e]
 cases hp:plL (args.toList.map (qJ env)) with
 | none=>rfl
 | some vs =>
   simp only
   have:jE P (cop (.call ⟨.builtin b,args,ts⟩) ty) (qSI env) H00=jE P (cop (.call ⟨.builtin b,args,ts⟩) ty) (qSI env') H00:=by
    refine rM (fun cs b h=>by cases h) fun x hx=>?_
    have hx':x∈args:=by simpa [Op.operands,Call.operands,cop] using hx
    obtain⟨a,ha⟩:=qH7 hp (qJ env x) (zQR.2 ⟨x,by simpa using hx',rfl⟩);exact qSU P (h x hx') (by rw[ha];rfl)
   rw[this]
theorem qS9 {o:Oper}{env env':List PV}{k:Nat}{ph:PHp}(h:∀ x∈o.op.operands,qJ env x=qJ env' x):sO P o env k ph=sO P o env' k ph:=by
 obtain⟨d,op,ty,pos,aft,g⟩:=o;cases op <;> simp only[Op.operands] at h <;> simp only[sO]
 case move x=>rw[h x (by simp)]
 case assign x=>rw[h x (by simp)]
 case pick c a b=>rw[h c (by simp),h a (by simp),h b (by simp)]
 case box el x=>rw[h x (by simp)]
 case build t ps=>rw[qCH fun x hx=>h x (by simpa using hx)]
 case buildSlice t n ps=>rw[qCH fun x hx=>h x (by simpa using hx)]
 case load t a=>rw[h a (by simp)]
 case store t a x=>rw[h a (by simp),h x (by simp)]
 case nilCheck x=>rw[h x (by simp)]
 case binOp op t x y t2=>rw[h x (by simp),h y (by simp)]
 case unOp op t x=>rw[h x (by simp)]
 case convert s t x=>rw[h x (by simp)]
 case makeFunc fn first cap =>
  rw[zRJ (l:=first.toList) fun x hx=>h x (zSF.2 (.inl (zRC.2 hx))),zRJ (l:=cap.toList) fun x hx=>h x (zSF.2 (.inr (zRC.2 hx)))]
 case makeSlice t l c=>rw[h l (by simp),h c (by simp)]
 case slice t x lo hi mx =>
  cases mx with
  | some m=>rfl
  | none =>
    have e1:lo.map (qJ env)=lo.map (qJ env'):=by cases lo <;> simp_all
    have e2:hi.map (qJ env)=hi.map (qJ env'):=by cases hi <;> simp_all
    have e3:(lo.toList++hi.toList).map (qJ env)=(lo.toList++hi.toList).map (qJ env'):=by cases lo <;> cases hi <;> simp_all
    have e4:lo.map (fun a=>Operand.const ((pl (qJ env a)).getD undef))=lo.map fun a=>Operand.const ((pl (qJ env' a)).getD undef):=by cases lo <;> simp_all
    have e5:hi.map (fun a=>Operand.const ((pl (qJ env a)).getD undef))=hi.map fun a=>Operand.const ((pl (qJ env' a)).getD undef):=by cases hi <;> simp_all
    simp only[h x (by simp),e1,e2,e3,e4,e5]
 case fieldAddr t x i=>rw[h x (by simp)]
 case indexAddr t x ix=>rw[h x (by simp),h ix (by simp)]
 case index t x ix=>rw[h x (by simp),h ix (by simp)]
 case extract t i=>rw[h t (by simp)]
 case makeMap t r=>cases r <;> rfl
 case lookup t x kx ok=>rw[h x (by simp),h kx (by simp)]
 case mapUpdate t m kx x=>rw[h m (by simp),h kx (by simp),h x (by simp)]
 case mapEntry t m kx=>rw[h m (by simp),h kx (by simp)]
 case call c =>
  obtain⟨cal,args,ts⟩:=c;simp only[Call.operands] at h;have ha:∀ x∈args,qJ env x=qJ env' x:=fun x hx=>h x (by cases cal <;> simp[hx])
  have e:args.toList.map (qJ env)=args.toList.map (qJ env'):=zRJ fun x hx=>ha x (zRC.2 hx)
  cases cal with
  | builtin b =>
    have hD:=qK2 (P:=P) (b:=b) (ts:=ts) (ty:=ty) (ph:=ph) ha;simp only[uM]
    cases b <;> simp only[e] at hD ⊢ <;> first | rfl | exact hD | skip
    rw[<-e] at hD;rw[<-e]
    cases hl:args.toList.map (qJ env) with
    | nil=>rfl
    | cons x l =>
      cases l with
      | nil =>
        simp only;rw[hl] at hD;rw[hD]
      | cons=>rfl
  | invoke r n=>rfl
  | value f=>rfl
theorem yE {l k:Nat}{ob:PO}{ph:PHp}(h:l≠k):qA l ((k,ob)::ph)=qA l ph:=by
 have:(l==k)=false:=by simpa using h
 show cond (l==k) (some ob) (qA l ph)=_;rw[this];rfl
theorem qFC {k:Nat}{ob:PO}{v y:PV}{ph ph':PHp}(h:qEB k ob v ph=some (y,ph')){l:Nat}(hl:l≠k):qA l ph'=qA l ph:=by
 obtain⟨_,rfl⟩:=fH h;exact yE hl
theorem qNV {m:PV}{ph:PHp}{k:Nat}{r:PO×Nat×List MapEntry}(h:gK P m ph=some (k,r)):m=.mp k:=by
 unfold gK at h;split at h
 ·split at h
  ·rename_i ob _
   cases hc:(spec P ob.el&&Nat.beq ob.el 1000000001) with
   | false=>rw[hc] at h;cases h
   | true =>
     rw[hc] at h;simp only[cond_true] at h;split at h
     ·cases h;rfl
     ·cases h
  ·cases h
 ·cases h
theorem qP9 {k l:Nat}{ob:PO}{ph:PHp}(h:l≠k):qA l (xO k ob ph)=qA l ph:=by rw[qY,if_neg (fun e=>h e.1)]
theorem qMD {t:TypeId}{m kx x:PV}{ph ph':PHp}(h:jT P t m kx x ph=some ph'){l:Nat}(hl:l ∉ dl1 m):qA l ph'=qA l ph:=by
 unfold jT at h;split at h
 case h_2=>cases h
 rename_i kt et k ob c es kv xv hu hm hkv hxv;have e:=qNV hm;subst e;have hne:l≠k:=fun e=>hl (by rw[e];simp[dl1])
 cases hc:zB xv with
 | false=>rw[hc] at h;cases h
 | true =>
   rw[hc] at h;simp only[cond_true] at h;split at h
   ·split at h
    ·rename_i e _
     cases hs:Instr.sameBits 10000 e.key kv with
     | false=>rw[hs] at h;cases h
     | true=>rw[hs] at h;cases h;exact qP9 hne
    ·cases h
   ·cases h;exact qP9 hne
   ·cases h
theorem qOW {t:TypeId}{m kx y:PV}{ph ph':PHp}(h:kK P t m kx ph=some (y,ph')){l:Nat}(hl:l ∉ dl1 m):qA l ph'=qA l ph:=by
 unfold kK at h;split at h
 case h_2=>cases h
 rename_i kt et k ob c es kv hu hm hkv;have e:=qNV hm;subst e;have hne:l≠k:=fun e=>hl (by rw[e];simp[dl1])
 split at h
 ·split at h
  ·rename_i e _;have h:=(yO h).2;cases h;exact qP9 hne
  ·cases h
 ·split at h
  ·rename_i z _;have h:=(yO h).2;cases h;exact qP9 hne
  ·cases h
 ·cases h
theorem qEF {t:TypeId}{m kx y:PV}{ph ph':PHp}(h:kK P t m kx ph=some (y,ph')):kU P t m kx false ph'=kU P t m kx false ph:=by
 unfold kK at h;split at h
 case h_2=>cases h
 rename_i kt et k ob c es kv hu hm hkv;have e:=qNV hm;subst e
 have hob:qA k ph=some ob∧(spec P ob.el&&Nat.beq ob.el 1000000001)=true:=by
  unfold gK at hm;simp only at hm;split at hm
  ·rename_i ob' ho;obtain⟨c1,h2⟩:=yO hm;split at h2
   ·cases h2;exact⟨ho,c1⟩
   ·cases h2
  ·cases hm
 have hm':∀ c' es',gK P (.mp k) (xO k { ob with cs:=kQ c' es' } ph)=some (k,{ ob with cs:=kQ c' es' },c',es'):=fun c' es'=>by
  unfold gK;simp only[qY,hob.1,zTB,and_self,if_true,hob.2,cond_true,qIH]
 split at h
 ·rename_i i hi;split at h
  ·rename_i e he;obtain⟨hc,h⟩:=yO h;rw[zPY] at hc;cases h;unfold kU;simp only[hu,hm',hm,hkv,qZ0 hc.2,hi,zUC,he,if_true];rfl
  ·cases h
 ·rename_i hi;split at h
  ·rename_i z hz;obtain⟨hc,h⟩:=yO h;rw[zPY] at hc;cases h;unfold kU;simp only[hu,hm',hm,hkv,qZ0 hc.2,hi,hz,hc.1,cond_true];simp[q0W]
  ·cases h
 ·cases h
theorem zBV {o:Oper}{env:List PV}{k:Nat}{ph ph':PHp}{v:PV}(h:sO P o env k ph=some (v,ph')){l:Nat}(hk:l≠k)(hd:l ∉ dlO o env):qA l ph'=qA l ph:=by
 obtain⟨d,op,ty,pos,aft,g⟩:=o;have one:∀ {r:Option PV},pp1 ph r=some (v,ph')->qA l ph'=qA l ph:=fun h=>by rw[(zU h).2]
 have nin:∀ x∈op.operands,l ∉ dl1 (qJ env x):=fun x hx hl=>hd (rV (o:=⟨d,op,ty,pos,aft,g⟩) hx hl)
 cases op <;> simp only[sO] at h <;> (try (cases h;done)) <;> (try (exact one h))
 case move=>cases h;rfl
 case assign=>cases h;rfl
 case pick=>split at h <;> cases h;rfl
 case alloc el =>
  unfold mJ at h;split at h
  ·exact qFC (gT h).2 hk
  ·cases h
 case box el x =>
  unfold q35 at h
  cases hc:(!(spec P el)&&(pnt (qJ env x)&&(zC (qJ env x)).all aN)) with
  | true=>rw[hc] at h;exact qFC h hk
  | false=>rw[hc] at h;cases h
 case buildSlice t n ps =>
  unfold z8 at h;split at h
  ·split at h
   ·rename_i s z _ _
    cases hc:(Nat.beq z.length (s+1)&&Nat.ble (n*(s+1)) 65536) with
    | true =>
      rw[hc] at h;simp only[cond_true] at h;split at h
      ·exact qFC h hk
      ·cases h
    | false=>rw[hc] at h;cases h
   ·cases h
  ·cases h
 case store t a x =>
  unfold ppS at h;split at h
  ·rename_i ph1 hs;cases h;unfold jS at hs;split at hs
   ·rename_i k' tt off ha;have hne:l≠k':=fun e=>nin a (by simp[Op.operands]) (by rw[ha,e];simp[dl1])
    split at hs
    ·split at hs
     ·rename_i ob _ _ n _
      replace hs:=(gT hs).2
      cases hc:(Nat.beq tt ob.cs.length&&(Nat.beq n (zC (qJ env x)).length&&(Nat.ble (off+n) ob.cs.length&&(pnt (qJ env x)&&(zC (qJ env x)).all aN)))) with
      | true=>rw[hc] at hs;cases hs;rw[qY,if_neg (fun h=>hne h.1)]
      | false=>rw[hc] at hs;cases hs
     ·cases hs
    ·cases hs
   ·cases hs
  ·cases h
 case convert s t x =>
  cases hc:qSY (qJ env x) with
  | true=>rw[hc] at h;cases h
  | false=>rw[hc] at h;exact one h
 case makeSlice t a b =>
  unfold xC at h;split at h
  ·rename_i el k1 n1 k2 m1 _ _ _
   cases hc:decide (n1=m1) with
   | false=>rw[hc] at h;cases h
   | true =>
     rw[hc] at h;simp only[cond_true] at h;split at h
     ·rename_i n s z _ _ _
      cases hc:(kY P el&&Nat.beq z.length (s+1)) with
      | true=>rw[hc] at h;exact qFC h hk
      | false=>rw[hc] at h;cases h
     ·cases h
  ·cases h
 case slice t x lo hi mx =>
  cases mx with
  | some=>cases h
  | none =>
    simp only at h;split at h
    ·split at h
     ·exact one h
     ·cases h
    ·exact one h
 case index=>split at h <;> exact one h
 case makeMap t r =>
  cases r with
  | some _=>cases h
  | none =>
    unfold cZ at h
    cases hc:spec P 1000000001 with
    | false=>rw[hc] at h;cases h
    | true=>rw[hc] at h;exact qFC h hk
 case mapUpdate t m kx x =>
  unfold ppS at h;split at h
  ·rename_i ph1 hs;cases h;exact qMD hs (nin m (by simp[Op.operands]))
  ·cases h
 case mapEntry t m kx=>exact qOW h (nin m (by simp[Op.operands]))
 case call c =>
  obtain⟨cal,args,ts⟩:=c;split at h
  ·rename_i b hb;simp only at hb;subst hb
   have dry:wC P b ⟨.builtin b,args,ts⟩ (args.toList.map (qJ env)) env ty ph=some (v,ph')->qA l ph'=qA l ph:=fun h=>by
    unfold wC at h;split at h
    ·exact one h
    ·cases h
   have mem:∀ x,x∈args.toList.map (qJ env)->l ∉ dl1 x:=fun x hx=>by
    obtain⟨a,ha,rfl⟩:=zQR.1 hx;exact nin a (by simpa [Op.operands,Call.operands] using ha)
   unfold uM at h;split at h
   ·split at h
    ·rename_i x y hxy;have hx:l ∉ dl1 x:=mem x (by rw[hxy];simp);unfold zV at h
     have grow:∀ {el s:Nat} {old:List PV} {n:Nat} {new:List PV} {mm kk:Nat} {php:PHp},rC P el s old n new mm kk php=some (v,ph')->l≠kk->qA l ph'=qA l php:=fun hg hkk=>by
      unfold rC at hg;rename_i el s old n new mm kk php
      cases hc:(Nat.ble (n+mm) 1048576&&(kY P el&&(Nat.beq (old.length) (n*s)&&(Nat.beq new.length (mm*s)&&new.all aN)))) with
      | true=>rw[hc] at hg;exact qFC hg hkk
      | false=>rw[hc] at hg;cases hg
     split at h
     ·split at h
      ·split at h
       ·split at h
        ·rename_i el _ _ _ _ s _ _ mm new _;split at h
         ·cases h0:Nat.beq mm 0 with
          | true=>rw[h0] at h;cases h;rfl
          | false=>rw[h0] at h;exact grow h hk
         ·rename_i j tt o n;have hj:l≠j:=fun e=>hx (by rw[e];simp[dl1])
          split at h
          ·rename_i ob hl
           cases hc:(Nat.beq ob.el el&&(Nat.beq (tt*(s+1)) ob.cs.length&&Nat.beq o 0)) with
           | false=>rw[hc] at h;cases h
           | true =>
             rw[hc] at h;simp only[cond_true] at h
             cases h0:Nat.beq mm 0 with
             | true=>rw[h0] at h;cases h;rfl
             | false =>
               rw[h0] at h;simp only[cond_false] at h
               cases hr:Nat.ble (n+mm) tt with
               | true =>
                 rw[hr] at h;simp only[cond_true] at h
                 cases hc2:(Nat.beq new.length (mm*(s+1))&&new.all aN) with
                 | true=>rw[hc2] at h;cases h;rw[qY,if_neg (fun h=>hj h.1)]
                 | false=>rw[hc2] at h;cases h
               | false =>
                 rw[hr] at h;simp only[cond_false] at h
                 cases hn:Nat.beq n tt with
                 | false=>rw[hn] at h;cases h
                 | true =>
                   rw[hn] at h;simp only[cond_true] at h
                   cases hg:ob.gr with
                   | true=>rw[hg] at h;rw[grow h hj,xA,if_neg hj]
                   | false=>rw[hg] at h;exact grow h hk
          ·cases h
         ·cases h
        ·cases h
       ·cases h
      ·cases h
     ·cases h
    ·cases h
   ·split at h
    ·rename_i x y hxy;have hx:l ∉ dl1 x:=mem x (by rw[hxy];simp);unfold qHS at h;split at h
     ·split at h
      ·split at h
       ·split at h
        ·rename_i el _ _ _ _ s _ _ mm new _;split at h
         ·rename_i j tt o n;have hj:l≠j:=fun e=>hx (by rw[e];simp[dl1])
          split at h
          ·rename_i ob hl
           cases hc:(Nat.beq ob.el el&&(Nat.beq (tt*(s+1)) ob.cs.length&&(Nat.beq new.length (mm*(s+1))&&new.all aN))) with
           | false=>rw[hc] at h;cases h
           | true=>rw[hc] at h;cases h;rw[qY,if_neg (fun h=>hj h.1)]
          ·cases h
         ·cases h;rfl
         ·cases h;rfl
         ·cases h
        ·cases h
       ·cases h
      ·cases h
     ·cases h
    ·cases h
   ·split at h
    ·cases hc:q0A P ts with
     | true=>rw[hc] at h;exact dry h
     | false=>rw[hc] at h;exact one h
    ·cases h
   ·exact dry h
   ·exact dry h
   ·cases h
  ·cases h
theorem q8I {t:TypeId}{a x:PV}{ph ph':PHp}(h:fJ P t a ph=some x)(hd:∀ l∈dl1 a,qA l ph'=qA l ph):fJ P t a ph'=some x:=by
 cases a <;> first | exact h | skip
 rename_i k tt off;have:=hd k (by simp[dl1]);unfold fJ at h ⊢;simp only[this];exact h
theorem qWP {k tt:Nat}{ph ph':PHp}(h:qA k ph'=qA k ph):live? k tt ph'=live? k tt ph:=by unfold live?;rw[h]
theorem qNU {a x:PV}{ph ph':PHp}(h:yP a ph=some x)(hd:∀ l∈dl1 a,qA l ph'=qA l ph):yP a ph'=some x:=by
 unfold yP at h ⊢;split at h
 ·rename_i k tt off;rw[qWP (tt:=tt) (hd k (by simp[dl1]))];exact h
 ·exact h
 ·exact h
 ·exact h
 ·cases h
theorem q1E {t:TypeId}{a x:PV}{lo hi:Option PV}{ph ph':PHp}(h:wS P t a lo hi ph=some x)(hd:∀ l∈dl1 a,qA l ph'=qA l ph):wS P t a lo hi ph'=some x:=by
 unfold wS at h ⊢;split at h
 ·exact h
 ·exact h
 ·rename_i k tt o n;rw[hd k (by simp[dl1])];exact h
 ·rename_i k tt;rw[hd k (by simp[dl1])];exact h
 ·cases h
theorem qK8 {t:TypeId}{a x:PV}{i:Nat}{ph ph':PHp}(h:zY P t a i ph=some x)(hd:∀ l∈dl1 a,qA l ph'=qA l ph):zY P t a i ph'=some x:=by
 cases a <;> first | exact h | skip
 rename_i k tt off;have:=qWP (tt:=tt) (hd k (by simp[dl1]));unfold zY at h ⊢;simp only[this];exact h
theorem qJ8 {t:TypeId}{a ix x:PV}{ph ph':PHp}(h:zA P t a ix ph=some x)(hd:∀ l∈dl1 a,qA l ph'=qA l ph):zA P t a ix ph'=some x:=by
 unfold zA at h ⊢;split at h
 ·split at h
  ·exact h
  ·rename_i k tt o n;rw[hd k (by simp[dl1])];exact h
  ·rename_i k tt off;rw[qWP (tt:=tt) (hd k (by simp[dl1]))];exact h
  ·exact h
  ·cases h
 ·cases h
theorem zBY {ts:Array TypeId}{a x:PV}{ph ph':PHp}(h:q2L P ts a ph=some x)(hd:∀ l∈dl1 a,qA l ph'=qA l ph):q2L P ts a ph'=some x:=by
 unfold q2L at h ⊢;split at h
 ·split at h
  ·split at h
   ·exact h
   ·exact h
   ·rename_i k tt o n;rw[hd k (by simp[dl1])];exact h
   ·cases h
  ·exact h
 ·cases h
theorem q9M {ts:Array TypeId}{a x:PV}{ph ph':PHp}(h:qD5 P ts a ph=some x)(hd:∀ l∈dl1 a,qA l ph'=qA l ph):qD5 P ts a ph'=some x:=by
 have e:tK P a ph'=tK P a ph:=by
  cases a <;> first | rfl | skip
  rename_i k;unfold tK;simp only[hd k (by simp[dl1])]
 unfold qD5 at h ⊢;rw[e];split at h
 ·exact h
 ·exact zBY h hd
theorem qWG {t:TypeId}{m kx x:PV}{ok:Bool}{ph ph':PHp}(h:kU P t m kx ok ph=some x)(hd:∀ l∈dl1 m,qA l ph'=qA l ph):kU P t m kx ok ph'=some x:=by
 have e:gK P m ph'=gK P m ph:=by
  cases m <;> first | rfl | skip
  rename_i k;unfold gK;simp only[hd k (by simp[dl1])]
 unfold kU at h ⊢;rw[e];exact h
theorem q7E {a:PV}{b:Bool}{ph ph':PHp}(h:isNil (P:=P) a ph=some b)(hd:∀ l∈dl1 a,qA l ph'=qA l ph):isNil (P:=P) a ph'=some b:=by
 unfold isNil at h ⊢;split at h
 ·exact h
 ·exact h
 ·rename_i k tt o n;rw[hd k (by simp[dl1])];exact h
 ·cases h
theorem zAW {t:TypeId}{a b:PV}{r:Bool}{ph ph':PHp}(h:qEP P t a b ph=some r)(hd:∀ l∈dl1 a,qA l ph'=qA l ph):qEP P t a b ph'=some r:=by
 unfold qEP at h ⊢;split at h
 ·cases hc:(zQ P t).isSome with
  | true=>rw[hc] at h;exact q7E h hd
  | false=>rw[hc] at h;cases h
 ·exact h
 ·cases h
theorem qYA {t:TypeId}{a b x:PV}{ph ph':PHp}{f:Bool->PV}(h:uV P t a b ph f=some x)(hd:∀ l∈dl1 a,qA l ph'=qA l ph):uV P t a b ph' f=some x:=by
 unfold uV at h ⊢;split at h
 ·rename_i r h1;rw[zAW h1 hd];exact h
 ·have:qEP P t a b ph'=none:=by
   unfold qTN at h;split at h
   ·rename_i el n c;unfold qEP
    cases hc:(zQ P t).isSome with
    | false=>rw[hc] at h;cases h
    | true=>rfl
   ·cases h
  rw[this];exact h
theorem zBZ {op:BinOp}{t t2:TypeId}{a b x:PV}{ph ph':PHp}(h:wR P op t t2 a b ph=some x)(hd:∀ l∈dl1 a,qA l ph'=qA l ph):wR P op t t2 a b ph'=some x:=by
 unfold wR at h ⊢;split at h
 ·exact h
 ·split at h
  ·exact qYA h hd
  ·exact qYA h hd
  ·cases h
theorem zAG {o:Oper}{env:List PV}{k:Nat}{ph ph1:PHp}{v:PV}(hf:yT o=false)(ha:qL o=false)(h:sO P o env k ph=some (v,ph1)) :
 ph1=ph∧∀ (k':Nat) (ph':PHp),(∀ l∈dlO o env,qA l ph'=qA l ph)->sO P o env k' ph'=some (v,ph'):=by
 obtain⟨d,op,ty,pos,aft,g⟩:=o;have mem:∀ {x:Operand} {ph':PHp},x∈op.operands->(∀ l∈dlO ⟨d,op,ty,pos,aft,g⟩ env,qA l ph'=qA l ph)->∀ l∈dl1 (qJ env x),qA l ph'=qA l ph:=fun hx hd l hl=>hd l (rV (o:=⟨d,op,ty,pos,aft,g⟩) hx hl)
 have one:∀ {f:PHp->Option PV},pp1 ph (f ph)=some (v,ph1)->(∀ {x ph'},(∀ l∈dlO ⟨d,op,ty,pos,aft,g⟩ env,qA l ph'=qA l ph)->f ph=some x->f ph'=some x)->ph1=ph∧∀ (k':Nat) (ph':PHp),(∀ l∈dlO ⟨d,op,ty,pos,aft,g⟩ env,qA l ph'=qA l ph)->pp1 ph' (f ph')=some (v,ph'):=fun h hk=>by
  obtain⟨h1,h2⟩:=zU h;exact⟨h2,fun k' ph' hd=>by rw[hk hd h1];rfl⟩
 have hne:xQ ⟨d,op,ty,pos,aft,g⟩=.pure∨xQ ⟨d,op,ty,pos,aft,g⟩=.read:=qGO hf ha
 cases op <;> simp only[sO] at h ⊢ <;> (try (cases h;done))
 case move=>cases h;exact⟨rfl,fun _ _ _=>rfl⟩
 case assign=>cases h;exact⟨rfl,fun _ _ _=>rfl⟩
 case pick c a b =>
  split at h
  ·rename_i t ht;cases h;refine⟨rfl,fun _ _ _=>?_⟩;simp only[ht]
  ·cases h
 case alloc=>simp only[xQ] at hne;split at hne <;> (rcases hne with h | h <;> cases h)
 case box=>rcases hne with h | h <;> cases h
 case buildSlice=>rcases hne with h | h <;> cases h
 case store=>rcases hne with h | h <;> cases h
 case makeSlice=>rcases hne with h | h <;> cases h
 case build t ps =>
  obtain⟨h1,h2⟩:=zU h;exact⟨h2,fun k' ph' hd=>by rw[h1];rfl⟩
 case load t a=>exact one (f:=fun q=>fJ P t (qJ env a) q) h fun hd h=>q8I h (mem (by simp[Op.operands]) hd)
 case nilCheck x=>exact one (f:=fun q=>yP (qJ env x) q) h fun hd h=>qNU h (mem (by simp[Op.operands]) hd)
 case binOp op t x y t2=>exact one (f:=fun q=>wR P op t t2 (qJ env x) (qJ env y) q) h fun hd h=>zBZ h (mem (by simp[Op.operands]) hd)
 case unOp op t x=>exact one (f:=fun _=>bU P (fun a=>.unOp op t a) (qJ env x)) h fun _ h=>h
 case convert s t x =>
  cases hc:qSY (qJ env x) with
  | true=>rw[hc] at h;cases h
  | false =>
    rw[hc] at h;simp only[cond_false] at h ⊢;exact one (f:=fun _=>bU P (fun a=>.convert s t a) (qJ env x)) h fun _ h=>h
 case makeFunc fn a b=>exact one (f:=fun _=>vI fn (a.toList.map (qJ env)) (b.toList.map (qJ env))) h fun _ h=>h
 case slice t x lo hi mx =>
  cases mx with
  | some=>cases h
  | none =>
    simp only at h ⊢;split at h
    ·rename_i s hs;split at h
     ·rename_i vs hvs;exact one (f:=fun _=>qOM P (.slice t (.const (.string s)) (lo.map fun a=>.const ((pl (qJ env a)).getD undef)) (hi.map fun a=>.const ((pl (qJ env a)).getD undef)) none)) h fun _ h=>h
     ·cases h
    ·exact one (f:=fun q=>wS P t (qJ env x) (lo.map (qJ env)) (hi.map (qJ env)) q) h fun hd h=>q1E h (mem (by cases lo <;> cases hi <;> simp[Op.operands]) hd)
 case fieldAddr t x i=>exact one (f:=fun q=>zY P t (qJ env x) i q) h fun hd h=>qK8 h (mem (by simp[Op.operands]) hd)
 case indexAddr t x ix=>exact one (f:=fun q=>zA P t (qJ env x) (qJ env ix) q) h fun hd h=>qJ8 h (mem (by simp[Op.operands]) hd)
 case index t x ix =>
  split at h
  ·rename_i s j hs hj;exact one (f:=fun _=>qOM P (.index t (.const (.string s)) (.const j))) h fun _ h=>h
  ·exact one (f:=fun _=>qFH P t (qJ env x) (qJ env ix)) h fun _ h=>h
 case extract t i=>exact one (f:=fun _=>cB (qJ env t) i) h fun _ h=>h
 case makeMap=>rcases hne with h | h <;> cases h
 case lookup t x kx ok=>exact one (f:=fun q=>kU P t (qJ env x) (qJ env kx) ok q) h fun hd h=>qWG h (mem (by simp[Op.operands]) hd)
 case mapUpdate=>rcases hne with h | h <;> cases h
 case mapEntry=>rcases hne with h | h <;> cases h
 case call c =>
  obtain⟨cal,args,ts⟩:=c;split at h
  ·rename_i b hb;simp only at hb;subst hb
   have dry:∀ {b:Builtin},wC P b ⟨.builtin b,args,ts⟩ (args.toList.map (qJ env)) env ty ph=some (v,ph1)->ph1=ph∧∀ ph',wC P b ⟨.builtin b,args,ts⟩ (args.toList.map (qJ env)) env ty ph'=some (v,ph'):=fun h=>by
    unfold wC at h ⊢;split at h
    ·obtain⟨h1,h2⟩:=zU h;exact⟨h2,fun ph'=>by rw[h1];rfl⟩
    ·cases h
   unfold uM at h;split at h
   ·rcases hne with h | h <;> cases h
   ·rcases hne with h | h <;> cases h
   ·split at h
    ·rename_i x hx
     obtain⟨a1,ha1,rfl⟩:∃ a1,args=#[a1]∧x=qJ env a1:=by
      cases hq:args.toList with
      | nil=>rw[hq] at hx;cases hx
      | cons a l =>
        rw[hq] at hx
        cases l with
        | nil =>
          simp only[zQG,zSA,zQQ,and_true] at hx
          exact ⟨a, by have e9:args=args.toList.toArray:=by simp
                       rw[e9,hq],hx.symm⟩
        | cons=>cases hx
     subst ha1
     cases hc:q0A P ts with
     | true =>
       rw[hc] at h;obtain⟨h1,h2⟩:=dry h;refine⟨h1,fun k' ph' hd=>?_⟩;unfold uM;simp only[zQG,zSA,hc,cond_true];exact h2 ph'
     | false =>
       rw[hc] at h;obtain⟨h1,h2⟩:=zU h;refine⟨h2,fun k' ph' hd=>?_⟩;unfold uM;simp only[zQG,zSA,hc,cond_false];rw[q9M h1 (mem (by simp[Op.operands,Call.operands]) hd)];rfl
    ·cases h
   ·obtain⟨h1,h2⟩:=dry h;exact⟨h1,fun k' ph' hd=>h2 ph'⟩
   ·obtain⟨h1,h2⟩:=dry h;exact⟨h1,fun k' ph' hd=>h2 ph'⟩
   ·cases h
  ·cases h
end Go.Idl
