/- Runs told by plain values, part two. Conditions: none. -/
import Derived.Test.YtpnecffgnjijjaaGreatDoorPur7
set_option linter.all false
namespace Go.Idl
variable [Gc]
variable {P:Program}{Z:Nat->Prop}{H:IH}{M:Nat->Option (Nat×PO)}{m:Nat->Nat}{ph:PHp}
variable {env:List PV}{zFA:Env}{k:Nat}{o:Oper}{ph':PHp}{y:PV}
theorem qLN {s n:Nat}{a:Option Addr}{len c:Nat}{vs:List Value}(h:kX s n H (.slice a len c)=some vs)(hk:k<=n):kX s k H (.slice a len c)=some (vs.take (k*s)):=by
 by_cases hk0:k=0
 ·subst hk0;simp[kX,xZ]
 ·unfold kX at h ⊢;rw[if_neg (by omega)] at h;rw[if_neg hk0];unfold wK at h ⊢
  cases a with
  | none=>simp only at h;split at h <;> first | omega | cases h
  | some a =>
    simp only at h ⊢;unfold IH.loads at h ⊢;split at h
    ·rename_i cc el fz hg;split at h
     ·cases h;have:k*s<=n*s:=zN4 _ hk;rw[if_pos (by omega),zQD]
      congr 2;omega
     ·cases h
    ·cases h
theorem qZX {j:Nat}{ob:PO}(hl:qA j ph=some ob):own m (xL j ob ph)=own m ph:=by
 funext k
 unfold own;rw[zA];by_cases h:k=j
 ·subst h;rw[if_pos ⟨rfl,by rw[hl];rfl⟩,hl]
 ·rw[if_neg (fun h'=>h h'.1)]
theorem q1L {l:List PV}{i:Nat}:yH l i []=l:=by unfold yH;simp
theorem q0M {p:Nat->Bool}{ts:List TypeId}{base x:PV}{vb vx:Value}(hp:Hp P Z H (own m ph))(hbase:VR P Z H (own m ph) base vb)(hx:VR P Z H (own m ph) x vx)(h:qFP P ts base x ph=some (y,ph')) :
 Res P Z H m ph p y ph' (qDG P ts.toArray [vb,vx] H):=by
 unfold qFP at h;split at h
 ·rename_i st xt;split at h
  ·rename_i el el2 he he2;split at h
   ·rename_i s hs;split at h
    ·rename_i mm new hnew;obtain⟨vs,a,c,rfl,hf,hr,hlen⟩:=qO9 hp hx hnew
     have icp:∀ bs n cap,qDG P #[st,xt] [.slice bs n cap,.slice a mm c] H=wZ bs (Nat.min mm n) (vs.take (Nat.min mm n*(s+1))) H:=fun bs n cap=>by
      unfold qDG;have hs':szT P el=some (s+1):=hs;simp only[zS he,hs',xZ,qLN hf (Nat.min_le_left mm n)]
     split at h
     ·rename_i j tt o n;split at h
      ·rename_i ob hl
       cases hc:(Nat.beq ob.el el&&(Nat.beq (tt*(s+1)) ob.cs.length&&(Nat.beq new.length (mm*(s+1))&&new.all fZ))) with
       | false=>rw[hc] at h;cases h
       | true =>
         rw[hc] at h;cases h;simp only[zMY] at hc;obtain⟨c1,c2,c3,c4⟩:=hc;have e1:=zMZ c1;have e2:=zMZ c2;subst e1;have hv1:=hr.one c4;obtain⟨hO,hpos⟩:=vV hbase hl hs e2;rw[show ([st,xt]:List TypeId).toArray=#[st,xt] from rfl]
         have same:∀ s',(s'=some (.val (goInt (Nat.min mm n)) H))->new.take (Nat.min mm n*(s+1))=[]->Res P Z H m ph p (fvv (.int .i64 ((Nat.min mm n:Nat):Int))) (xL j { ob with cs:=yH ob.cs (o*(s+1)) (new.take (Nat.min mm n*(s+1))) } ph) s':=fun s' hs' h0=>by
          rw[h0,q1L];have e:own m (xL j { ob with cs:=ob.cs } ph)=own m ph:=qZX hl;refine⟨goInt (Nat.min mm n),H,Z,m,hs',?_,kE rfl,?_,?_⟩
          ·rw[e];exact hp
          ·rw[e];exact .refl _ _ _
          ·rw[e];exact .refl _ _
         rcases hO with ⟨g1,rfl,rfl,rfl,rfl⟩ | ⟨g1,g2,g3,rfl⟩
         ·rw[icp];exact same _ rfl (by simp)
         ·have hre:=bP e2 hpos g1;obtain⟨w1,w2,w3,ws,q1,q2,q3⟩:=hp.real hl hre (xR hs);rw[icp];by_cases h0:(vs.take (Nat.min mm n*(s+1)))=[]
          ·rw[h0];refine same _ rfl ?_;have:=(hr.take (Nat.min mm n*(s+1))).len;rw[h0] at this;exact zN7.1 this
          ·have hle:(o+n)*(s+1)<=tt*(s+1):=zN4 _ g2;rw[zPK] at hle;have hmn:Nat.min mm n*(s+1)<=n*(s+1):=zN4 _ (Nat.min_le_right mm n);have hlt:(new.take (Nat.min mm n*(s+1))).length<=n*(s+1):=by simp only[zOA];omega
           have h1:(vs.take (Nat.min mm n*(s+1))).all oneCell=true:=by
            rw[zM1] at hv1 ⊢;exact fun x hx=>hv1 x (zP1 hx)
           obtain⟨r1,r2,r3⟩:=hp.put (cs:=yH ob.cs (o*(s+1)) (new.take (Nat.min mm n*(s+1)))) hl hre (xR hs) (cZ (by omega)) (q2.over (hr.take (Nat.min mm n*(s+1))) (o*(s+1))) (tT q3 h1);refine⟨goInt (Nat.min mm n),_,Z,m,?_,r1,kE rfl,r2,r3 _⟩;unfold wZ
           have hne:(vs.take (Nat.min mm n*(s+1))).isEmpty=false:=by
            cases hq:vs.take (Nat.min mm n*(s+1)) with
            | nil=>exact absurd hq h0
            | cons=>rfl
           simp only[hne,zOY,if_false]
           have hst:H.stores (m j) (o*(s+1)) (vs.take (Nat.min mm n*(s+1)))=some (H.put (m j) (.cells (overwrite ws (o*(s+1)) (vs.take (Nat.min mm n*(s+1)))).toArray ob.el (cond ob.gr zN (0,0)))):=by
            unfold IH.stores;rw[q1];simp only[];rw[if_pos];simp only[qS5,h1,w2,decide_true,zO9,decide_eq_true_eq,zPN];rw[<-q2.len,<- (hr.take (Nat.min mm n*(s+1))).len];omega
           rw[hst]
      ·cases h
     ·cases h;obtain⟨ab,cb,rfl⟩:=qUG hbase;have h0:Nat.min mm 0=0:=zQ7 mm;refine .same ?_ hp (kE (v:=.int .i64 0) rfl);rw[show ([st,xt]:List TypeId).toArray=#[st,xt] from rfl,icp,h0];cases ab <;> simp[wZ,goInt]
     ·cases h;have:=yK hbase rfl;subst this;have h0:Nat.min mm 0=0:=zQ7 mm;refine .same ?_ hp (kE (v:=.int .i64 0) rfl);rw[show ([st,xt]:List TypeId).toArray=#[st,xt] from rfl,icp,h0];simp[wZ,goInt]
     ·cases h
    ·cases h
   ·cases h
  ·cases h
 ·cases h
theorem zY {o:Option PV}(h:pp1 ph o=some (y,ph')):o=some y∧ph'=ph:=by
 unfold pp1 at h;split at h
 ·cases h;exact⟨rfl,rfl⟩
 ·cases h
theorem VRL.of {env:List PV}{zFA:Env}(he:VRL P Z H M env zFA):∀ (l:List Operand),VRL P Z H M (l.map (qJ env)) (l.map zFA.val)
 | []=>.nil
 | x::l=>.cons (qK he x) (VRL.of he l)
theorem qGR (h:zZ k env=true)(x:Operand):noK k (qJ env x)=true:=by
 cases x with
 | tmp t =>
   show noK k ((zJ env t).getD .unk)=true;rw[qG]
   cases he:env[t]? with
   | none=>rfl
   | some y=>exact vU h he
 | const v =>
   show noK k (ofC v)=true;unfold ofC q8G;split
   ·rename_i cs;cases jZ okC cs.toList with
    | true=>exact p9 k _
    | false=>rfl
   ·rename_i cs;cases jZ okC cs.toList with
    | true=>exact p9 k _
    | false=>rfl
   ·cases okC v <;> rfl
 | global g=>rfl
 | func g=>rfl
theorem qO3 {k:Nat}{env:List PV}(h:zZ k env=true):∀ (l:List (Nat×Operand)),zZ k ((l.map fun p=>(p.1,qJ env p.2)).map (·.2))=true
 | []=>rfl
 | p::l=>by simp only[zNH,zZ,qGR h,qO3 h l,zNX]
theorem Res.up {p q:Nat->Bool}{v:PV}{s:Option zFH}(h:Res P Z H m ph p v ph' s)(hq:∀ j,p j=true->q j=true):Res P Z H m ph q v ph' s:=by
 obtain⟨u,H',Z',m',h1,h2,h3,h4,h5⟩:=h
 exact⟨u,H',Z',m',h1,h2,h3,h4,fun j b ob hM=>by
  rcases h5 j b ob hM with h | h | h
  ·exact .inl h
  ·exact .inr (.inl h)
  ·exact .inr (.inr (hq j h))⟩
def nw (o:Op)(k:Nat):Nat->Bool:=fun j=>needs o&&(j==k)
theorem q6W (hp:Hp P Z H (own m ph))(hb:H.base<=H.size)(he:VRL P Z H (own m ph) env zFA)(hn:needs o.op=true->zZ k env=true∧gZ k ph=true)(h:sS P o env k ph=some (y,ph')) :
 Res P Z H m ph (nw o.op k) y ph' (iop P o zFA H):=by
 obtain⟨d,op,ty,pos,aft,g⟩:=o;have fin:∀ {x:PV} {s:Option zFH},(∃ u,s=some (.val u H)∧VR P Z H (own m ph) x u)->Res P Z H m ph (nw op k) x ph s:=fun ⟨u,h1,h2⟩=>.same h1 hp h2
 have zH6:∀ {x:PV} {s:Option Value},(∃ u,s=some u∧VR P Z H (own m ph) x u)->Res P Z H m ph (nw op k) x ph (zFH.ofO H s):=fun ⟨u,h1,h2⟩=>.same (by rw[h1];rfl) hp h2
 cases op <;> simp only[sS] at h <;> (try (cases h;done)) <;> simp only at hn fin zH6
 case move x=>cases h;exact fin ⟨_,rfl,qK he x⟩
 case assign x=>cases h;exact fin ⟨_,rfl,qK he x⟩
 case pick c a b =>
  split at h
  ·rename_i t ht;cases h;have hc:=qK he c;rw[ht] at hc;have hv:=yK hc rfl;refine fin ⟨cond t (zFA.val a) (zFA.val b),?_,?_⟩
   ·show qMI (zFA.val c) _ _ H=_;rw[hv];rfl
   ·cases t
    ·exact qK he b
    ·exact qK he a
  ·cases h
 case alloc el =>
  obtain⟨n1,n2⟩:=hn rfl;exact (qV9 hp hb n2 h).up fun j hj=>hj
 case box el x =>
  obtain⟨n1,n2⟩:=hn rfl;exact (q7K hp hb n2 (qK he x) (qGR n1 x) h).up fun j hj=>hj
 case build t ps =>
  obtain⟨h1,rfl⟩:=zY h;exact zH6 (qVD (qT3 he _) h1)
 case buildSlice t len ps =>
  obtain⟨n1,n2⟩:=hn rfl;exact (qDA hp hb n2 (qT3 he _) (qO3 n1 _) h).up fun j hj=>hj
 case load t a =>
  obtain⟨h1,rfl⟩:=zY h;exact zH6 (qO7 hp (qK he a) h1)
 case store t a x =>
  unfold ppS at h;split at h
  ·rename_i ph1 hs;cases h;exact qW6 hp (qK he a) (qK he x) hs
  ·cases h
 case nilCheck x =>
  obtain⟨h1,rfl⟩:=zY h;obtain⟨h2,rfl⟩:=qJR (qK he x) h1;exact fin ⟨_,h2,qK he x⟩
 case binOp op t x z t2 =>
  obtain⟨h1,rfl⟩:=zY h;exact fin (q6C (qK he x) (qK he z) h1)
 case unOp op t x =>
  obtain⟨h1,rfl⟩:=zY h;exact fin (qNY (qK he x) rfl h1)
 case convert s t x =>
  cases hpt:qSB (qJ env x) with
  | true=>rw[hpt] at h;cases h
  | false =>
  rw[hpt] at h;obtain⟨h1,rfl⟩:=zY h;have hx:=qK he x;obtain⟨u,h2,h3⟩:=qNY (o:=⟨d,.convert s t x,ty,pos,aft,g⟩) (env:=zFA) hx rfl h1;refine fin ⟨u,?_,h3⟩;show gU P _ s t (zFA.val x) zFA H=_;unfold gU;split
  ·rename_i a ha;exfalso;unfold aY at h1;split at h1
   ·rename_i b hb';have hv:=yK hx hb';rw[ha] at hv;subst hv;unfold pl at hb';split at hb'
    ·rename_i x0 hx0;cases hb';rw[hx0] at hpt;cases hpt
    ·split at hb' <;> cases hb'
    ·cases hb'
   ·cases h1
  ·exact h2
 case makeFunc fn first cap =>
  obtain⟨h1,rfl⟩:=zY h;exact fin (qKS (by simpa using VRL.of he first.toList) (by simpa using VRL.of he cap.toList) h1)
 case makeSlice t l c =>
  obtain⟨n1,n2⟩:=hn rfl;exact (qG8 hp hb n2 (qK he l) (qK he c) h).up fun j hj=>hj
 case slice t x lo hi mx =>
  cases mx with
  | some mx=>cases h
  | none =>
    simp only at h;split at h
    ·rename_i s hs;have hx:=qK he x;rw[hs] at hx;have hv:=yK hx rfl;split at h
     ·rename_i vs hvs;obtain⟨h1,rfl⟩:=zY h
      have zKS:∀ (w:Option Operand),(∀ a,w=some a->a∈lo.toList++hi.toList)->(w.map fun a=>(Operand.const ((pl (qJ env a)).getD undef))).map (Env.val [])=w.map zFA.val:=fun w hw=>by
       cases w with
       | none=>rfl
       | some a =>
         obtain⟨b,hb'⟩:=qF3 hvs (qJ env a) (zNO.2 ⟨a,hw a rfl,rfl⟩);simp only[zNE,hb',zO4];rw[yK (qK he a) hb'];rfl
      have hlo:=zKS lo (fun a ha=>by subst ha;simp);have hhi:=zKS hi (fun a ha=>by subst ha;simp)
      obtain⟨u,h2,h3⟩:=qTV (M:=own m _) (Z:=Z) (H:=H) (o:=⟨d,.slice t x lo hi none,ty,pos,aft,g⟩) (env:=zFA) (by
       have hex:execOp zFA.val ⟨d,.slice t x lo hi none,ty,pos,aft,g⟩=execOp (Env.val []) (cop (.slice t (.const (.string s)) (lo.map fun a=>.const ((pl (qJ env a)).getD undef)) (hi.map fun a=>.const ((pl (qJ env a)).getD undef)) none)):=by
        show (do let x <- Instr.sliceAt t (zFA.val x) (lo.map zFA.val) (hi.map zFA.val) none;pure (Next.value x))=(do let x <- Instr.sliceAt t (.string s) ((lo.map fun a=>(Operand.const ((pl (qJ env a)).getD undef))).map (Env.val [])) ((hi.map fun a=>(Operand.const ((pl (qJ env a)).getD undef))).map (Env.val [])) none;pure (Next.value x));rw[hlo,hhi,hv]
       have hpl:kP zFA.val (Op.slice t x lo hi none).operands.toList=kP (Env.val []) (cop (.slice t (.const (.string s)) (lo.map fun a=>.const ((pl (qJ env a)).getD undef)) (hi.map fun a=>.const ((pl (qJ env a)).getD undef)) none)).op.operands.toList:=by
        rw[xC,xC];cases lo <;> cases hi <;> simp_all [Op.operands,cop,Env.val]
       unfold kG;rw[hex]
       simp only[hpl]) h1
      refine fin ⟨u,?_,h3⟩;show wY P _ t (zFA.val x) _ _ _ zFA H=_;rw[hv];exact h2
     ·cases h
    ·rename_i v hne;obtain⟨h1,rfl⟩:=zY h;obtain⟨u,h2,h3⟩:=qSD hp (qK he x) (q8J.of he lo) (q8J.of he hi) h1;exact fin ⟨u,qLR h2,h3⟩
 case fieldAddr t x i =>
  obtain⟨h1,rfl⟩:=zY h;exact zH6 (qGP (qK he x) h1)
 case indexAddr t x ix =>
  obtain⟨h1,rfl⟩:=zY h;exact zH6 (qGW hp (qK he x) (qK he ix) h1)
 case index t x ix =>
  split at h
  ·rename_i s j hs hj;obtain⟨h1,rfl⟩:=zY h;have hx:=qK he x;rw[hs] at hx;have hv:=yK hx rfl;have hv2:=yK (qK he ix) hj;obtain⟨u,h2,h3⟩:=qTV (M:=own m _) (Z:=Z) (H:=H) (o:=⟨d,.index t x ix,ty,pos,aft,g⟩) (env:=zFA) (by rw[<-hv,<-hv2];rfl) h1;refine fin ⟨u,?_,h3⟩;show uF P _ t (zFA.val x) _ zFA H=_;rw[hv];exact h2
  ·obtain⟨h1,rfl⟩:=zY h;obtain⟨u,h2,h3⟩:=qVV (qK he x) (qK he ix) h1;exact fin ⟨u,qM7 h2,h3⟩
 case makeMap t r =>
  obtain⟨n1,n2⟩:=hn rfl
  cases r with
  | some _=>cases h
  | none=>exact (qMO hp hb n2 h).up fun j hj=>hj
 case lookup t x kx ok =>
  obtain⟨h1,rfl⟩:=zY h;exact zH6 (qQ5 hp (qK he x) (qK he kx) h1)
 case mapUpdate t mv kx x =>
  unfold ppS at h;split at h
  ·rename_i ph1 hs;cases h;exact qHL hp (qK he mv) (qK he kx) (qK he x) hs
  ·cases h
 case range t x =>
  obtain⟨n1,n2⟩:=hn rfl;exact (qUJ hp hb n2 (qK he x) h).up fun j hj=>hj
 case next it b =>
  cases b with
  | false=>cases h
  | true=>exact q17 hp (qK he it) h
 case extract t i =>
  obtain⟨h1,rfl⟩:=zY h;exact fin (qNJ (qK he t) h1)
 case call c =>
  obtain⟨cal,args,ts⟩:=c;split at h
  ·rename_i b hbq;simp only at hbq;subst hbq;have two:∀ x z,args.toList=[x,z]->kP zFA.val args.toList=[zFA.val x,zFA.val z]:=fun x z e=>by rw[e];rfl
   unfold wS at h;split at h
   ·-- append
    split at h
    ·rename_i x z hxz;obtain⟨n1,n2⟩:=hn rfl
     obtain⟨a1,a2,ha,rfl,rfl⟩:∃ a1 a2,args.toList=[a1,a2]∧x=qJ env a1∧z=qJ env a2:=by
      cases hq:args.toList with
      | nil=>rw[hq] at hxz;cases hxz
      | cons a l =>
        rw[hq] at hxz
        cases l with
        | nil=>cases hxz
        | cons a2 l =>
          cases l with
          | nil=>simp only[zNH,zO7,zNW,and_true] at hxz;exact⟨a,a2,rfl,hxz.1.symm,hxz.2.symm⟩
          | cons=>cases hxz
     have hr:=qRX hp hb n2 (qK he a1) (qK he a2) (qGR n1 a2) (qGR n1 a1) h;obtain⟨u,H',Z',m',e1,e2,e3,e4,e5⟩:=hr;refine Res.up (p:=fun j=>j==k) ⟨u,H',Z',m',?_,e2,e3,e4,e5⟩ fun j hj=>hj
     refine bC ?_;rw[two _ _ ha];rw[show ts.toList.toArray=ts from by simp] at e1;exact e1
    ·cases h
   ·-- copy
    split at h
    ·rename_i x z hxz
     obtain⟨a1,a2,ha,rfl,rfl⟩:∃ a1 a2,args.toList=[a1,a2]∧x=qJ env a1∧z=qJ env a2:=by
      cases hq:args.toList with
      | nil=>rw[hq] at hxz;cases hxz
      | cons a l =>
        rw[hq] at hxz
        cases l with
        | nil=>cases hxz
        | cons a2 l =>
          cases l with
          | nil=>simp only[zNH,zO7,zNW,and_true] at hxz;exact⟨a,a2,rfl,hxz.1.symm,hxz.2.symm⟩
          | cons=>cases hxz
     have hr:=q0M (p:=nw (.call ⟨.builtin .copy,args,ts⟩) k) hp (qK he a1) (qK he a2) h;obtain⟨u,H',Z',m',e1,e2,e3,e4,e5⟩:=hr;refine⟨u,H',Z',m',?_,e2,e3,e4,e5⟩;refine bC ?_;rw[two _ _ ha];rw[show ts.toList.toArray=ts from by simp] at e1;exact e1
    ·cases h
   ·-- len
    split at h
    ·rename_i x hx0
     obtain⟨a1,ha,rfl⟩:∃ a1,args=#[a1]∧x=qJ env a1:=by
      cases hq:args.toList with
      | nil=>rw[hq] at hx0;cases hx0
      | cons a l =>
        rw[hq] at hx0
        cases l with
        | nil =>
          simp only[zNH,zO7,zNW,and_true] at hx0
          exact ⟨a, by have e9:args=args.toList.toArray:=by simp
                       rw[e9,hq],hx0.symm⟩
        | cons=>cases hx0
     subst ha
     cases hst:qYX P ts with
     | true =>
       rw[hst] at h
       have hnone:yE P .len ⟨.builtin .len,#[a1],ts⟩ (kP zFA.val #[a1].toList) H=none:=by
        show oJ P ts [zFA.val a1] H=none;unfold qYX at hst;split at hst
        ·rename_i hu;unfold oJ;rw[hu]
        ·cases hst
       obtain⟨e9,hr⟩:=qB1 (d:=d) (pos:=pos) (aft:=aft) (g:=g) he hnone h;subst e9;exact fin hr
     | false =>
       rw[hst] at h;obtain⟨h1,rfl⟩:=zY h;exact fin (q0E hp (qK he a1) (fun hq=>q43 (qK he a1) hq) (fun w hw=>bC hw) h1)
    ·cases h
   ·obtain⟨e9,hr⟩:=qB1 (d:=d) (pos:=pos) (aft:=aft) (g:=g) he rfl h;subst e9;exact fin hr
   ·obtain⟨e9,hr⟩:=qB1 (d:=d) (pos:=pos) (aft:=aft) (g:=g) he rfl h;subst e9;exact fin hr
   ·cases h
  ·cases h
theorem q6L (hp:Hp P Z H (own m ph))(hb:H.base<=H.size)(he:VRL P Z H (own m ph) env zFA)(hn:needs o.op=true->zZ k env=true∧gZ k ph=true)(h:q99 P o env k ph=some (y,ph')) :
 Res P Z H m ph (nw o.op k) y ph' (iop P o zFA H):=by
 exact q6W hp hb he hn h
end Go.Idl
namespace Go.Idl
variable [Gc]
variable {P:Program}{Z:Nat->Prop}{H:IH}{M:Nat->Option (Nat×PO)}{m:Nat->Nat}{ph:PHp}
variable {Z':Nat->Prop}{k:Nat}{ph':PHp}{v:Value}{vs:List Value}{xs:List PV}
def sN (f:PHp->PV->Option (FV×PHp)):List PV->PHp->Option (List FV×PHp)
 | [],ph=>some ([],ph)
 | x::l,ph=>match f ph x with
   | some (y,ph1)=>(match sN f l ph1 with
     | some (ys,ph2)=>some (y::ys,ph2)
     | none=>none)
   | none=>none
noncomputable def fz1 (P:Program):Nat->PHp->PV->Option (FV×PHp)
 | 0,ph,.f x=>some (x,ph)
 | 0,_,_=>none
 | n+1,ph,.f x=>some (x,ph)
 | n+1,ph,.own k t o c=>(match qA k ph with
   | some ob=>(match szT P ob.el with
     | some s=>cond (Nat.beq (t*s) ob.cs.length) (match sN (fz1 P n) ((ob.cs.drop (o*s)).take (c*s)) (nN k ph) with
       | some (cs,ph')=>some (.l ob.el c cs,ph')
       | none=>none) none
     | none=>none)
   | none=>none)
 | n+1,ph,.asl el k t=>(match qA k ph with
   | some ob=>cond (Nat.beq t ob.cs.length&&(!spec P ob.el&&!ob.gr)) (match sN (fz1 P n) ob.cs (nN k ph) with
      | some (cs,ph')=>some (.l el t cs,ph')
      | none=>none) none
   | none=>none)
 | n+1,_,_=>none
noncomputable def fzP (P:Program)(ph:PHp)(x:PV):Option (PV×PHp):=match x with
 | .agg cs=>(match sN (fz1 P 4) cs ph with
   | some (ys,ph')=>some (.agg (ys.map .f),ph')
   | none=>none)
 | x=>(match fz1 P 4 ph x with
   | some (y,ph')=>some (.f y,ph')
   | none=>none)
noncomputable def fzA (P:Program):List PV->PHp->Option (List PV×PHp)
 | [],ph=>some ([],ph)
 | x::l,ph=>match fzP P ph x with
   | some (y,ph1)=>(match fzA P l ph1 with
     | some (ys,ph2)=>some (y::ys,ph2)
     | none=>none)
   | none=>none
structure Fz (P:Program) (Z:Nat->Prop) (H:IH) (m:Nat->Nat) (ph:PHp) (Z':Nat->Prop) (ph':PHp):Prop where
 hp:Hp P Z' H (own m ph')
 zle:∀ b,Z b->Z' b
 sub:∀ k ob,qA k ph'=some ob->qA k ph=some ob
 zGD:∀ b,Z' b->Z b∨bV (own m ph) b
theorem Fz.refl (h:Hp P Z H (own m ph)):Fz P Z H m ph Z ph:=⟨h,fun _ h=>h,fun _ _ h=>h,fun _ h=>.inl h⟩
theorem Fz.zHL (a:Fz P Z H m ph Z' ph'){r:Nat×PO}(h:own m ph' k=some r):own m ph k=some r:=by
 obtain⟨b,ob⟩:=r;obtain⟨h1,rfl⟩:=vL h;exact qM (a.sub k ob h1)
theorem Fz.trans {Z1 Z2:Nat->Prop}{ph1 ph2:PHp}(a:Fz P Z H m ph Z1 ph1)(b:Fz P Z1 H m ph1 Z2 ph2):Fz P Z H m ph Z2 ph2 :=
 ⟨b.hp,fun x h=>b.zle x (a.zle x h),fun k ob h=>a.sub k ob (b.sub k ob h),fun x h=>by
   rcases b.zGD x h with h | ⟨k,ob,h1,h2⟩
   ·exact a.zGD x h
   ·exact .inr ⟨k,ob,a.zHL h1,h2⟩⟩
theorem Fz.kr (a:Fz P Z H m ph Z' ph')(p:Nat->Bool):KR p (own m ph) (own m ph'):=fun k b ob h=>.inl ⟨ob,a.zHL h,rfl,rfl,rfl⟩
theorem Fz.step {Z':Nat->Prop}{ph':PHp}(a:Fz P Z H m ph Z' ph'):Step Z H (own m ph) Z' H (own m ph') :=
 ⟨zM0 _,rfl,a.zle,fun _ _ _=>rfl,fun b h _=>a.zGD b h,fun b ⟨k,ob,h1,h2⟩ _=>⟨k,ob,a.zHL h1,h2⟩⟩
theorem Fz.vrl (a:Fz P Z H m ph Z' ph')(h:VRL P Z H (Go.Idl.own m ph) xs vs):VRL P Z' H (Go.Idl.own m ph') xs vs :=
 h.mono (p:=fun _=>false) a.zle (zM0 _) (fun _ _ _=>rfl) (a.kr _) fun j hj=>by cases hj
theorem Fz.del (h:Hp P Z H (own m ph)){ob:PO}(hl:qA k ph=some ob)(hr:real ob):Fz P Z H m ph (fun b=>Z b∨b=m k) (nN k ph):=by
 have hsub:∀ j o,qA j (nN k ph)=some o->j≠k∧qA j ph=some o:=fun j o h=>by
  rw[yZ] at h;split at h
  ·cases h
  ·rename_i hj;exact⟨hj,h⟩
 have hown:∀ j b o,own m (nN k ph) j=some (b,o)->j≠k∧own m ph j=some (b,o):=fun j b o h=>by
  obtain⟨h1,rfl⟩:=vL h;obtain⟨h2,h3⟩:=hsub j o h1;exact⟨h2,qM h3⟩
 obtain⟨w1,w2,w3⟩:=h.zJR hl hr;refine⟨⟨?_,?_,?_,h.gl.mono h.zlt (fun _ h=>.inl h) fun _ _ _=>rfl⟩,fun b h=>.inl h,fun j o h=>(hsub j o h).2,?_⟩
 ·rintro b (hb | rfl)
  ·exact h.zlt b hb
  ·exact w1
 ·intro j b o hj;obtain⟨h1,h2⟩:=hown j b o hj
  rcases h.obj j b o h2 with h3 | ⟨a1,a2,a3,a4⟩
  ·exact .inl h3
  ·by_cases hro:o.gr=true∧o.cs=[]
   ·exact .inl hro
   ·refine .inr ⟨a1,a2,?_,a4.mono rfl fun _ a5=>a5.mono (p:=fun _=>false) (fun _ h=>.inl h) (zM0 _) (fun _ _ _=>rfl) (fun i b' o' hi=>.inl ⟨o',(hown i b' o' hi).2,rfl,rfl,rfl⟩) (fun j hj=>by cases hj)⟩;rintro (hz | rfl)
    ·exact a3 hz
    ·exact h.inj j k _ _ o ob h2 (qM hl) hro hr h1 rfl
 ·intro j j' b b' o o' h1 h2 r1 r2 hne;exact h.inj j j' b b' o o' (hown j b o h1).2 (hown j' b' o' h2).2 r1 r2 hne
 ·rintro b (hz | rfl)
  ·exact .inl hz
  ·exact .inr ⟨k,ob,qM hl,hr⟩
theorem Fz.drop (h:Hp P Z H (own m ph))(hs:∀ k ob,qA k ph'=some ob->qA k ph=some ob):Fz P Z H m ph Z ph':=by
 have hown:∀ j b o,own m ph' j=some (b,o)->own m ph j=some (b,o):=fun j b o h=>by
  obtain⟨h1,rfl⟩:=vL h;exact qM (hs j o h1)
 refine⟨⟨h.zlt,?_,?_,h.gl⟩,fun _ h=>h,hs,fun _ h=>.inl h⟩
 ·intro j b o hj
  rcases h.obj j b o (hown j b o hj) with h3 | ⟨a1,a2,a3,a4⟩
  ·exact .inl h3
  ·exact .inr ⟨a1,a2,a3,a4.mono rfl fun _ a5=>a5.mono (p:=fun _=>false) (fun _ h=>h) (zM0 _) (fun _ _ _=>rfl) (fun i b' o' hi=>.inl ⟨o',hown i b' o' hi,rfl,rfl,rfl⟩) (fun j hj=>by cases hj)⟩
 ·intro j j' b b' o o' h1 h2 r1 r2 hne;exact h.inj j j' b b' o o' (hown j b o h1) (hown j' b' o' h2) r1 r2 hne
structure FRL (Z:Nat->Prop) (H:IH) (xs:List FV) (vs:List Value):Prop where
 len:xs.length=vs.length
 val:∀ (i:Nat) x v,xs[i]?=some x->vs[i]?=some v->FR Z H x v
theorem FRL.cons {x:FV}{xs:List FV}(h:FR Z H x v)(t:FRL Z H xs vs):FRL Z H (x::xs) (v::vs) :=
 ⟨by simp[t.len],fun i y u h1 h2=>by
   cases i with
   | zero=>simp at h1 h2;subst h1 h2;exact h
   | succ i=>exact t.val i y u (by simpa using h1) (by simpa using h2)⟩
theorem FRL.map {xs:List FV}(h:FRL Z H xs vs):VRL P Z H M (xs.map .f) vs:=qS1 h.len h.val
theorem qCU {f:PHp->PV->Option (FV×PHp)}(hf:∀ {Z:Nat->Prop} {ph:PHp} {x:PV} {y:FV} {ph':PHp} {v:Value},Hp P Z H (own m ph)->VR P Z H (own m ph) x v->f ph x=some (y,ph')->∃ Z',Fz P Z H m ph Z' ph'∧FR Z' H y v) :
 ∀ {xs:List PV} {vs:List Value} {Z:Nat->Prop} {ph:PHp} {ys:List FV} {ph':PHp},Hp P Z H (own m ph)->VRL P Z H (own m ph) xs vs->sN f xs ph=some (ys,ph')->∃ Z',Fz P Z H m ph Z' ph'∧FRL Z' H ys vs
 | [],vs,Z,ph,ys,ph',hp,hx,h=>by
   simp only[sN,zM7,Prod.mk.injEq] at h;obtain⟨rfl,rfl⟩:=h;rw[hx.zFF];exact⟨Z,.refl hp,rfl,fun i x v h=>by simp at h⟩
 | x::xs,_,Z,ph,ys,ph',hp,hx,h=>by
   obtain⟨v,vs,rfl,h1,h2⟩:=hx.zFD;unfold sN at h;split at h
   ·rename_i y ph1 hy;split at h
    ·rename_i ys' ph2 hys;cases h;obtain⟨Z1,c1,r1⟩:=hf hp h1 hy;obtain⟨Z2,c2,r2⟩:=qCU hf c1.hp (c1.vrl h2) hys;exact⟨Z2,c1.trans c2,.cons (r1.mono c2.zle (zM0 _) fun _ _ _=>rfl) r2⟩
    ·cases h
   ·cases h
theorem qIW:∀ (n:Nat) {Z:Nat->Prop} {ph:PHp} {x:PV} {y:FV} {ph':PHp} {v:Value},Hp P Z H (own m ph)->VR P Z H (own m ph) x v->fz1 P n ph x=some (y,ph')->∃ Z',Fz P Z H m ph Z' ph'∧FR Z' H y v
 | n,Z,ph,.f x,y,ph',v,hp,hx,h=>by
   have:some (x,ph)=some (y,ph'):=by cases n <;> exact h
   cases this
   cases hx with
   | f hx=>exact⟨Z,.refl hp,hx⟩
 | 0,Z,ph,.agg _,y,ph',v,hp,hx,h=>by cases h
 | 0,Z,ph,.tup _,y,ph',v,hp,hx,h=>by cases h
 | 0,Z,ph,.own _ _ _ _,y,ph',v,hp,hx,h=>by cases h
 | 0,Z,ph,.ref _ _ _,y,ph',v,hp,hx,h=>by cases h
 | 0,Z,ph,.lp _ _,y,ph',v,hp,hx,h=>by cases h
 | 0,Z,ph,.fn _ _ _,y,ph',v,hp,hx,h=>by cases h
 | 0,Z,ph,.unk,y,ph',v,hp,hx,h=>by cases h
 | 0,Z,ph,.yl _,y,ph',v,hp,hx,h=>by cases h
 | 0,Z,ph,.bq,y,ph',v,hp,hx,h=>by cases h
 | 0,Z,ph,.mp _,y,ph',v,hp,hx,h=>by cases h
 | 0,Z,ph,.asl _ _ _,y,ph',v,hp,hx,h=>by cases h
 | n+1,Z,ph,.agg _,y,ph',v,hp,hx,h=>by cases h
 | n+1,Z,ph,.tup _,y,ph',v,hp,hx,h=>by cases h
 | n+1,Z,ph,.ref _ _ _,y,ph',v,hp,hx,h=>by cases h
 | n+1,Z,ph,.lp _ _,y,ph',v,hp,hx,h=>by cases h
 | n+1,Z,ph,.fn _ _ _,y,ph',v,hp,hx,h=>by cases h
 | n+1,Z,ph,.unk,y,ph',v,hp,hx,h=>by cases h
 | n+1,Z,ph,.yl _,y,ph',v,hp,hx,h=>by cases h
 | n+1,Z,ph,.bq,y,ph',v,hp,hx,h=>by cases h
 | n+1,Z,ph,.mp _,y,ph',v,hp,hx,h=>by cases h
 | n+1,Z,ph,.own k t o c,y,ph',v,hp,hx,h=>by
   unfold fz1 at h;split at h
   ·rename_i ob hl;split at h
    ·rename_i s hs
     cases hc:Nat.beq (t*s) ob.cs.length with
     | false=>rw[hc] at h;cases h
     | true =>
       rw[hc] at h;simp only[cond_true] at h;have he:=zMZ hc;split at h
       ·rename_i cs ph1 hf;cases h;obtain⟨hO,h0⟩:=vV hx hl hs he
        rcases hO with ⟨g1,rfl,rfl,rfl,rfl⟩ | ⟨g1,g2,g3,rfl⟩
        ·have hc0:ob.cs=[]:=zN7.1 (by omega);rw[hc0] at hf;have hf':sN (fz1 P n) [] (nN k ph)=some (cs,ph'):=by simpa using hf
         have:some (([]:List FV),nN k ph)=some (cs,ph'):=hf';cases this;refine⟨Z,.drop hp fun j o hj=>?_,.nil (fun _=>rfl) (fun x h=>by cases h)⟩;rw[yZ] at hj;split at hj
         ·cases hj
         ·exact hj
        ·have hre:=bP he h0 g1;obtain⟨w1,w2,w3,vs,q1,q2,q3⟩:=hp.real hl hre (xR hs);have hcut:=Fz.del hp hl hre;have hle:(o+c)*s<=t*s:=zN4 _ g2;rw[zPK] at hle;obtain⟨Z2,c2,r2⟩:=qCU (fun a b c=>qIW n a b c) hcut.hp (hcut.vrl ((q2.drop (o*s)).take (c*s))) hf;refine⟨Z2,hcut.trans c2,.l (vs:=(vs.drop (o*s)).take (c*s)) (c2.zle _ (.inr rfl)) w1 (by omega) (by cases ob.gr <;> simp) ?_ r2.val⟩
         have hcl:cs.length=c*s:=by
          rw[r2.len];simp only[zOA,zPQ];rw[<-q2.len];omega
         rw[hcl];exact xK q1 (by rw[<-q2.len];omega) rfl
       ·cases h
    ·cases h
   ·cases h
 | n+1,Z,ph,.asl el k t,y,ph',v,hp,hx,h=>by
   unfold fz1 at h;split at h
   ·rename_i ob hl
    cases hc:(Nat.beq t ob.cs.length&&(!spec P ob.el&&!ob.gr)) with
    | false=>rw[hc] at h;cases h
    | true =>
      rw[hc] at h;simp only[cond_true] at h;simp only[zMY,zNJ] at hc;obtain⟨c1,c2,c3⟩:=hc;have he:=zMZ c1;split at h
      ·rename_i cs ph1 hf;cases h;have hre:real ob:=fun q=>by rw[c3] at q;cases q.1
       obtain⟨w1,w2,w3,vs,q1,q2,q3⟩:=hp.real hl hre c2;have hcut:=Fz.del hp hl hre;obtain⟨Z2,c4,r2⟩:=qCU (fun a b c=>qIW n a b c) hcut.hp (hcut.vrl q2) hf
       cases hx with
       | asl _ hh =>
         obtain⟨_,hv⟩:=hh _ _ (qM hl);have:=hv he;subst this;refine⟨Z2,hcut.trans c4,.l (vs:=vs) (c4.zle _ (.inr rfl)) w1 (zM0 _) (.inl rfl) ?_ r2.val⟩;exact xK q1 (by rw[r2.len,zNY];exact zM0 _) (by rw[r2.len,zOH];exact zNR (zM0 _))
      ·cases h
   ·cases h
theorem qJ2 {x y:PV}(hp:Hp P Z H (own m ph))(hx:VR P Z H (own m ph) x v)(h:fzP P ph x=some (y,ph')):∃ Z',Fz P Z H m ph Z' ph'∧VR P Z' H (fun _=>none) y v:=by
 unfold fzP at h;split at h
 ·rename_i cs;split at h
  ·rename_i ys ph1 hf;cases h
   cases hx with
   | agg hl hc =>
     rename_i vs;obtain⟨Z',c1,r1⟩:=qCU (vs:=vs.toList) (fun a b c=>qIW 4 a b c) hp ⟨by simpa using hl,fun i x v a b=>hc i x v a (by simpa using b)⟩ hf;have:=(r1.map (P:=P) (M:=fun _=>none)).toA;exact⟨Z',c1,by simpa using this⟩
  ·cases h
 ·split at h
  ·rename_i y' ph1 hf;cases h;obtain⟨Z',c1,r1⟩:=qIW 4 hp hx hf;exact⟨Z',c1,.f r1⟩
  ·cases h
theorem VRL.none {H':IH}(h:VRL P Z H (fun _=>none) xs vs)(hz:∀ b,Z b->Z' b)(hs:H.size<=H'.size)(hg:∀ b,Z b->b < H.size->H'.get b=H.get b){M:Nat->Option (Nat×PO)}(hn:∀ k,M k=none):VRL P Z' H' M xs vs :=
 h.mono (p:=fun _=>false) hz hs hg (fun k b o hk=>by rw[hn] at hk;cases hk) fun j hj=>by cases hj
theorem qJE:∀ {xs:List PV} {vs:List Value} {Z:Nat->Prop} {ph:PHp} {ys:List PV} {ph':PHp},Hp P Z H (own m ph)->VRL P Z H (own m ph) xs vs->fzA P xs ph=some (ys,ph')->∃ Z',Fz P Z H m ph Z' ph'∧VRL P Z' H (fun _=>none) ys vs
 | [],vs,Z,ph,ys,ph',hp,hx,h=>by
   simp only[fzA,zM7,Prod.mk.injEq] at h;obtain⟨rfl,rfl⟩:=h;rw[hx.zFF];exact⟨Z,.refl hp,.nil⟩
 | x::xs,_,Z,ph,ys,ph',hp,hx,h=>by
   obtain⟨v,vs,rfl,h1,h2⟩:=hx.zFD;unfold fzA at h;split at h
   ·rename_i y ph1 hy;split at h
    ·rename_i ys' ph2 hys;cases h;obtain⟨Z1,c1,r1⟩:=qJ2 hp h1 hy;obtain⟨Z2,c2,r2⟩:=qJE c1.hp (c1.vrl h2) hys;exact⟨Z2,c1.trans c2,.cons (r1.mono (p:=fun _=>false) c2.zle (zM0 _) (fun _ _ _=>rfl) (.refl _ _) fun j hj=>by cases hj) r2⟩
    ·cases h
   ·cases h
end Go.Idl
namespace Go.Idl
variable [Gc]
variable {P:Program}{Z:Nat->Prop}{H:IH}{M:Nat->Option (Nat×PO)}{m:Nat->Nat}{ph:PHp}{G:Nat->Bool}
variable {H':IH}{M':Nat->Option (Nat×PO)}{Z':Nat->Prop}{cs env:List PV}{zFA:Env}{t:TypeId}{v:Value}{vs:Array Value}{x:PV}
theorem Hp.old (h:Hp P Z H (own m ph))(ho:Old H H')(hz:∀ b,Z b->Z' b)(hz1:∀ b,Z' b->b < H'.size)(hz2:∀ b,Z' b->b < H.size->Z b):Hp P Z' H' (own m ph):=by
 refine⟨hz1,fun k b ob hk=>?_,h.inj,h.gl.mono h.zlt hz fun b _ hb=>ho.get b hb⟩
 rcases h.obj k b ob hk with h1 | ⟨a1,a2,a3,a4⟩
 ·exact .inl h1
 ·exact .inr ⟨zM4 a1 ho.size,by rw[ho.base];exact a2,fun h=>a3 (hz2 b h a1),a4.mono (ho.get b a1) fun _ a5=>a5.mono (p:=fun _=>false) hz ho.size (fun b _ hb=>ho.get b hb) (.refl _ _) (fun j hj=>by cases hj)⟩
theorem Step.old (ho:Old H H')(hz:∀ b,Z b->Z' b)(hz2:∀ b,Z' b->b < H.size->Z b):Step Z H M Z' H' M :=
 ⟨ho.size,ho.base,hz,fun b hb _=>ho.get b hb,fun b h hb=>.inl (hz2 b h hb),fun _ h _=>h⟩
def q57:PV->Bool
 | .f (.v (.slice _ _ _))=>false
 | _=>true
def qWQ:PV->Bool
 | .agg cs=>cs.all q57
 | x=>q57 x
def j4:PV->Bool
 | .f (.v x)=>q57 (.f (.v x))
 | .agg cs=>(qKD cs).isSome&&cs.all q57
 | .tup cs=>(plL cs).isSome&&cs.all qWQ
 | _=>false
theorem qMS (h:VR P Z H M x v)(hp:(pl1 x).isSome=true)(Z':Nat->Prop)(H':IH)(M':Nat->Option (Nat×PO)):VR P Z' H' M' x v:=by
 unfold pl1 at hp;split at hp
 ·cases h with
  | f h=>cases h with
    | v a b=>exact .f (.v a b)
 ·cases hp
theorem qFR (Z':Nat->Prop)(H':IH)(M':Nat->Option (Nat×PO)):∀ {xs:List PV} {vs:List Value},VRL P Z H M xs vs->(qKD xs).isSome=true->VRL P Z' H' M' xs vs
 | [],vs,h,_=>by rw[h.zFF];exact .nil
 | x::xs,_,h,hp=>by
   obtain⟨v,vs,rfl,h1,h2⟩:=h.zFD;unfold qKD at hp;split at hp
   ·rename_i a ha;split at hp
    ·rename_i as has;exact .cons (qMS h1 (by rw[ha];rfl) _ _ _) (qFR Z' H' M' h2 (by rw[has];rfl))
    ·cases hp
   ·cases hp
theorem VR.zHT (h:VR P Z H M (.agg cs) v):∃ vs,v=.agg vs∧VRL P Z H M cs vs.toList:=by
 cases h with
 | agg hl hc=>exact⟨_,rfl,by simpa using hl,fun i x v a b=>hc i x v a (by simpa using b)⟩
theorem VR.zJG (h:VR P Z H M (.tup cs) v):∃ vs,v=.tuple vs∧VRL P Z H M cs vs.toList:=by
 cases h with
 | tup hl hc=>exact⟨_,rfl,by simpa using hl,fun i x v a b=>hc i x v a (by simpa using b)⟩
theorem VRL.agg' (h:VRL P Z H M cs vs.toList):VR P Z H M (.agg cs) (.agg vs):=.agg (by simpa using h.len) fun i x v a b=>h.val i x v a (by simpa using b)
theorem VRL.zHM (h:VRL P Z H M cs vs.toList):VR P Z H M (.tup cs) (.tuple vs):=.tup (by simpa using h.len) fun i x v a b=>h.val i x v a (by simpa using b)
theorem zAU (h:VR P Z H M x v)(hp:(pl x).isSome=true)(Z':Nat->Prop)(H':IH)(M':Nat->Option (Nat×PO)):VR P Z' H' M' x v:=by
 unfold pl at hp;split at hp
 ·exact qMS h rfl _ _ _
 ·rename_i cs;obtain⟨vs,rfl,hr⟩:=h.zHT;refine (qFR Z' H' M' hr ?_).agg';split at hp
  ·rename_i as has;rw[has];rfl
  ·cases hp
 ·cases hp
theorem qWI (Z':Nat->Prop)(H':IH)(M':Nat->Option (Nat×PO)):∀ {xs:List PV} {vs:List Value},VRL P Z H M xs vs->(plL xs).isSome=true->VRL P Z' H' M' xs vs
 | [],vs,h,_=>by rw[h.zFF];exact .nil
 | x::xs,_,h,hp=>by
   obtain⟨v,vs,rfl,h1,h2⟩:=h.zFD;unfold plL at hp;split at hp
   ·rename_i a ha;split at hp
    ·rename_i as has;exact .cons (zAU h1 (by rw[ha];rfl) _ _ _) (qWI Z' H' M' h2 (by rw[has];rfl))
    ·cases hp
   ·cases hp
theorem qDM (h:VR P Z H M x v)(hp:j4 x=true)(Z':Nat->Prop)(H':IH)(M':Nat->Option (Nat×PO)):VR P Z' H' M' x v:=by
 unfold j4 at hp;split at hp
 ·exact qMS h rfl _ _ _
 ·obtain⟨vs,rfl,hr⟩:=h.zHT;rw[zMY] at hp;exact (qFR Z' H' M' hr hp.1).agg'
 ·obtain⟨vs,rfl,hr⟩:=h.zJG;rw[zMY] at hp;exact (qWI Z' H' M' hr hp.1).zHM
 ·cases hp
def vS (P:Program):Nat->TypeId->List TypeId
 | 0,t=>[t]
 | n+1,t=>match P.underlying t with
   | some (.struct fields)=>fields.toList.flatMap fun f=>vS P n f.type
   | some (.array k el)=>(List.replicate k (vS P n el)).flatten
   | _=>[t]
def rt0 (P:Program)(t:TypeId):PV->PV
 | .f (.v (.slice none 0 0))=>match zR P t with
   | some el=>.f (.l el 0 [])
   | none=>fvv (.slice none 0 0)
 | x=>x
def rtC [Gc](P:Program)(t:TypeId)(x:PV):PV:=cond (Gc.ol t) x (rt0 P t x)
def rtL (f:TypeId->PV->PV):List TypeId->List PV->List PV
 | t::ts,x::xs=>f t x::rtL f ts xs
 | _,xs=>xs
def rt1 (P:Program)(t:TypeId):PV->PV
 | .agg cs=>.agg (rtL (rtC P) (vS P 8 t) cs)
 | x=>rt0 P t x
def rtA (P:Program)(g:FuncId)(args:List PV):List PV:=match P.funcs[g]? with
 | some fn=>rtL (rt1 P) fn.params.toList args
 | none=>args
theorem q23 (h:VR P Z H M x v):VR P Z H M (rt0 P t x) v:=by
 unfold rt0;split
 ·split
  ·have:=yK h rfl;subst this;exact .f (.nil (fun _=>rfl) fun _ h=>by cases h)
  ·exact h
 ·exact h
theorem q4C (h:VR P Z H M x v):VR P Z H M (rtC P t x) v:=by
 unfold rtC;cases Gc.ol t
 ·exact q23 h
 ·exact h
theorem qD7 {f:TypeId->PV->PV}(hf:∀ t x v,VR P Z H M x v->VR P Z H M (f t x) v):∀ {ts:List TypeId} {xs:List PV} {vs:List Value},VRL P Z H M xs vs->VRL P Z H M (rtL f ts xs) vs
 | [],xs,vs,h=>by cases xs <;> exact h
 | t::ts,[],vs,h=>h
 | t::ts,x::xs,vs,h=>by
   obtain⟨v,vs',rfl,h1,h2⟩:=h.zFD;exact .cons (hf t x v h1) (qD7 hf h2)
theorem qE3 (h:VR P Z H M x v):VR P Z H M (rt1 P t x) v:=by
 unfold rt1;split
 ·obtain⟨vs,rfl,hr⟩:=h.zHT;exact (qD7 (fun t x v h=>q4C h) hr).agg'
 ·exact q23 h
theorem q9X {g:FuncId}{xs:List PV}{vs:List Value}(h:VRL P Z H M xs vs):VRL P Z H M (rtA P g xs) vs:=by
 unfold rtA;split
 ·exact qD7 (fun t x v h=>qE3 h) h
 ·exact h
abbrev uQ:=FuncId->List PV->Option PV
def Ctr (P:Program)(k:List Value->IH->T (Value×IH))(zG7:List PV)(r:PV):Prop :=
 ∀ (Z:Nat->Prop) (H:IH) (args:List Value),VRL P Z H (fun _=>none) zG7 args->(∀ b,Z b->b < H.size)->H.base<=H.size->q3G Z H->∀ Q:Value×IH->Prop,
  (∀ v H' (Z':Nat->Prop),Old H H'->(∀ b,Z b->Z' b)->(∀ b,Z' b->b < H'.size)->(∀ b,Z' b->b < H.size->Z b)->VR P Z' H' (fun _=>none) r v->Q (v,H'))->(k args H).holds Q
def qSS:PV->Bool
 | .f _=>true
 | _=>false
def qHU:PV->Bool
 | .agg cs=>cs.all qSS
 | x=>qSS x
def q5P:PV->Bool
 | .tup cs=>cs.all qHU
 | x=>qHU x
theorem qQL (h:VR P Z H M x v)(hp:qSS x=true):VR P Z H M' x v:=by
 unfold qSS at hp;split at hp
 ·cases h with
  | f h=>exact .f h
 ·cases hp
theorem bO (h:VR P Z H M x v)(hp:qHU x=true):VR P Z H M' x v:=by
 unfold qHU at hp;split at hp
 ·obtain⟨vs,rfl,hr⟩:=h.zHT;exact VRL.agg' ⟨hr.len,fun i x v a b=>qQL (hr.val i x v a b) (zM1.1 hp x (zN5 a))⟩
 ·exact qQL h hp
theorem q1T (h:VR P Z H M x v)(hp:q5P x=true):VR P Z H M' x v:=by
 unfold q5P at hp;split at hp
 ·obtain⟨vs,rfl,hr⟩:=h.zJG;exact VRL.zHM ⟨hr.len,fun i x v a b=>bO (hr.val i x v a b) (zM1.1 hp x (zN5 a))⟩
 ·exact bO h hp
def qR8 (P:Program)(nat:xA)(tab:uQ):Prop:=∀ g zG7 r,tab g zG7=some r->enters P g=true∧q5P r=true∧∃ k,nat g=some k∧Ctr P k zG7 r
structure Nm where
 b:Nat
 p:Nat->Bool
def qNH (P:Program)(g:FuncId):Bool:=match P.funcs[g]? with
 | some fn=>fn.body.isNone&&!(fn.name == "internal/abi.NoEscape" && fn.origin == "")
 | none=>false
def qDE (P:Program)(G:Nat->Bool)(nm:Nm)(g:FuncId)(args:List PV)(ph:PHp)(R:PV->PHp->Prop):Prop :=
 (qNH P g=true∧∃ vs v,plL args=some vs∧(zQ vs&&jZ (kC 2) vs)=true∧yB P (callFunc g vs.toArray)=some (.value v)∧qJQ v=true∧R (ofC v) ph) ∨
 enters P g=true∧∀ (Z:Nat->Prop) (H:IH) (m:Nat->Nat) (zFN:List Value),Hp P Z H (own m ph)->H.base<=H.size->VRL P Z H (own m ph) args zFN ->
  gP P G g zFN H fun r=>∃ Z' m' pv ph',Hp P Z' r.2 (own m' ph')∧VR P Z' r.2 (own m' ph') pv r.1∧Step Z H (own m ph) Z' r.2 (own m' ph')∧KR nm.p (own m ph) (own m' ph')∧R pv ph'
inductive PE where
 | fail
 | ok (v:PV) (ph:PHp)
 | call (g:FuncId) (args:List PV) (ph:PHp)
 | rnd (l:Nat) (args:List PV) (ph:PHp)
inductive PT where
 | fail
 | ret (env:List PV) (ph:PHp)
 | chk (c:Bool) (t:PT)
 | call (nm:Nm) (g:FuncId) (args:List PV) (ph:PHp) (k:PV->PHp->PT)
 | rnd (l:Nat) (args:List PV) (ph:PHp) (k:PV->PHp->PT)
def PT.holds (P:Program)(G:Nat->Bool)(Q:List PV->PHp->Prop):PT->Prop
 | .fail=>False
 | .ret env ph=>Q env ph
 | .chk c t=>c=true∧t.holds P G Q
 | .call nm g args ph k=>∃ R,qDE P G nm g args ph R∧∀ v ph',R v ph'->(k v ph').holds P G Q
 | .rnd _ _ _ _=>False
noncomputable def fU (P:Program)(tab:uQ)(g:FuncId)(args:List PV)(ph:PHp):PE:=match fzA P args ph with
 | some (zGF,ph1)=>(match tab g (rtA P g zGF) with
   | some r=>.ok r (cond (j4 r) ph ph1)
   | none=>.fail)
 | none=>.fail
noncomputable def dV (P:Program)(tab:uQ)(inl:FuncId->Bool)(g:FuncId)(args:List PV)(ph:PHp):PE:=cond (inl g) (.call g args ph) (fU P tab g args ph)
noncomputable def oV (P:Program)(tab:uQ)(inl:FuncId->Bool)(fv:PV)(args:List PV)(ph:PHp):PE:=match fv with
 | .f (.v (.func (.func g) a c))=>cond (a.toList.isEmpty&&c.toList.isEmpty) (dV P tab inl g args ph) .fail
 | .yl l=>.rnd l args ph
 | .fn g first cap=>dV P tab inl g (first++(args++cap)) ph
 | _=>.fail
def peO:Option (PV×PHp)->PE
 | some r=>.ok r.1 r.2
 | none=>.fail
noncomputable def bF (P:Program)(tab:uQ)(inl:FuncId->Bool)(k:Nat)(o:Oper)(env:List PV)(ph:PHp):PE:=match o.op with
 | .call ⟨.value f,args,_⟩=>oV P tab inl (qJ env f) (args.toList.map (qJ env)) ph
 | _=>peO (q99 P o env k ph)
def qPR (want:Bool):PV->Option Bool
 | .f (.v (.bool b))=>some (b==want)
 | .tup cs=>cond cs.isEmpty (some false) none
 | _=>none
noncomputable def qPU (w:Bool)(env:List PV):Option Tmp->Option Bool
 | some t=>(match zJ env t with
   | some v=>qPR w v
   | none=>none)
 | none=>some false
noncomputable def j5 (ds:List (Option Tmp))(o:Oper)(env:List PV):Option Bool:=match o.guard with
 | none=>some true
 | some (j,w)=>qPU w env (qQ9 ds j)
def wid (b:Nat):Nat:=cond (Nat.blt b 1000) 1 (cond (Nat.blt b 1000000) 1000 (cond (Nat.blt b 1000000000) 1000000 (cond (Nat.blt b 1000000000000) 1000000000 (cond (Nat.blt b 1000000000000000) 1000000000000 (cond (Nat.blt b 1000000000000000000) 1000000000000000 (cond (Nat.blt b 1000000000000000000000) 1000000000000000000 (cond (Nat.blt b 1000000000000000000000000) 1000000000000000000000 1000000000000000000000000)))))))
def inB (b k:Nat):Bool:=Nat.beq ((k / 1000) % wid b) (b / 1000)
def inP (nm:Nm)(k:Nat):Bool:=nm.p k
def qUM (nm:Nm)(g:FuncId):Nm:=⟨nm.b+wid nm.b*1000*(g+1),fun k=>inB (nm.b+wid nm.b*1000*(g+1)) k&&nm.p k⟩
def zD5 (b k:Nat):Bool:=inB b k&&Nat.blt (k % 1000) 900
mutual
def noP (p:Nat->Bool):PV->Bool
 | .f _=>true
 | .agg cs=>rX p cs
 | .tup cs=>rX p cs
 | .own j _ _ _=>!p j
 | .ref j _ _=>!p j
 | .lp _ _=>true
 | .fn _ a b=>rX p a&&rX p b
 | .yl _=>true
 | .bq=>true
 | .unk=>true
 | .mp j=>!p j
 | .asl _ j _=>!p j
def rX (p:Nat->Bool):List PV->Bool
 | []=>true
 | x::l=>noP p x&&rX p l
end
def qZV (p:Nat->Bool):PHp->Bool
 | []=>true
 | (_,o)::ph=>rX p o.cs&&qZV p ph
def q4H (nm:Nm)(j:FuncId)(env:List PV)(ph:PHp):Bool:=rX (inB (nm.b+wid nm.b*1000*(j+1))) env&&((ph.all fun x=>!inB (nm.b+wid nm.b*1000*(j+1)) x.1||nm.p x.1)&&qZV (zD5 (nm.b+wid nm.b*1000*(j+1))) ph)
def qLD (nm:Nm)(g:FuncId)(env:List PV)(ph:PHp):FuncId:=cond (q4H nm g env ph) g (cond (q4H nm (g+333) env ph) (g+333) (cond (q4H nm (g+666) env ph) (g+666) g))
def clean (p:Nat->Bool)(env:List PV):PHp->Bool
 | []=>true
 | (k,_)::ph=>(!p k||zZ k env)&&clean p env ph
def qH (nm:Nm)(d:Option Tmp):Nat:=match d with
 | some t=>nm.b+t
 | none=>nm.b
def fresh (nm:Nm)(k:Nat)(env:List PV)(ph:PHp):Bool:=inP nm k&&(zZ k env&&gZ k ph)
def q8I (c:Bool)(k:Nat)(nm:Nm)(env:List PV)(ph:PHp)(t:PT):PT:=cond c (.chk (fresh nm k env ph) t) t
noncomputable def pops (P:Program)(tab:uQ)(inl:FuncId->Bool)(nm:Nm)(ds:List (Option Tmp)):List Oper->List PV->PHp->PT
 | [],env,ph=>.ret env ph
 | o::l,env,ph=>vB (j5 ds o env)
    (match bF P tab inl (qH nm o.dst) o env ph with
     | .fail=>.fail
     | .ok v ph'=>q8I (needs o.op) (qH nm o.dst) nm env ph (pops P tab inl nm ds l (yL env o.dst v) ph')
     | .call g args ph'=>.call (qUM nm (qLD nm g env ph')) g args ph' fun v ph2=>.chk (clean (qUM nm (qLD nm g env ph')).p env ph2) (pops P tab inl nm ds l (yL env o.dst v) ph2)
     | .rnd x args ph'=>.rnd x args ph' fun v ph2=>pops P tab inl nm ds l (yL env o.dst v) ph2)
    (pops P tab inl nm ds l (yL env o.dst (.tup [])) ph) .fail
theorem KR.trans {p:Nat->Bool}{M1 M2 M3:Nat->Option (Nat×PO)}(a:KR p M1 M2)(b:KR p M2 M3):KR p M1 M3:=fun k b' ob' h=>by
 rcases b k b' ob' h with ⟨ob,h1,h2,h3,h4⟩ | ⟨b1,ob,h1,h2,h3,hb1⟩ | h
 ·rcases a k b' ob h1 with ⟨o2,q1,q2,q3,q4⟩ | ⟨b2,o2,q1,q2,q3,qb2⟩ | q
  ·exact .inl ⟨o2,q1,q2.trans h2,q3.trans h3,q4.trans h4⟩
  ·exact .inr (.inl ⟨b2,o2,q1,by omega,q3.trans h3,qb2⟩)
  ·exact .inr (.inr q)
 ·rcases a k b1 ob h1 with ⟨o2,q1,q2,q3,q4⟩ | ⟨b2,o2,q1,q2,q3,qb2⟩ | q
  ·exact .inr (.inl ⟨b1,o2,q1,by omega,q3.trans h3,fun hh=>hb1 (by rw[<-q3];exact hh)⟩)
  ·exact .inr (.inl ⟨b2,o2,q1,by omega,q3.trans h3,fun hh=>(qb2 hh).trans (hb1 (by rw[<-q3];exact hh))⟩)
  ·exact .inr (.inr q)
 ·exact .inr (.inr h)
theorem KR.up {p q:Nat->Bool}{M1 M2:Nat->Option (Nat×PO)}(a:KR p M1 M2)(h:∀ k,p k=true->q k=true):KR q M1 M2:=fun k b ob hk=>by
 rcases a k b ob hk with h1 | h1 | h1
 ·exact .inl h1
 ·exact .inr (.inl h1)
 ·exact .inr (.inr (h k h1))
theorem VRL.zFT (h:VRL P Z H M env zFA)(hx:VR P Z H M x v)(d:Option Tmp):VRL P Z H M (yL env d x) (zFA.zFT d v):=by
 cases d with
 | none=>exact h
 | some t =>
   show VRL P Z H M (yQ env t x) (yQ zFA t v);rw[qV,qV];exact h.set hx t
theorem o8 {ops:Array Oper}{o:Oper}{b:Bool}(he:VRL P Z H M env zFA)(h:j5 (ops.toList.map (·.dst)) o env=some b):kH ops o zFA=some b:=by
 rw[qM3];unfold j5 at h;unfold qOR;split at h
 ·rename_i hg;rw[hg];exact h
 ·rename_i j w hg;rw[hg];simp only;unfold qPU at h;unfold qRS;split at h
  ·rename_i t ht;rw[ht];simp only;split at h
   ·rename_i v hv;rw[qG] at hv;obtain⟨u,h1,h2⟩:=he.get hv;unfold zAS;rw[qG,h1];unfold qPR at h;split at h
    ·have:=yK h2 rfl;subst this;exact h
    ·rename_i cs
     cases hc:cs.isEmpty with
     | false=>rw[hc] at h;cases h
     | true =>
       rw[hc] at h;obtain⟨vs,rfl,hr⟩:=h2.zJG
       have:cs=[]:=by cases cs with
        | nil=>rfl
        | cons=>cases hc
       subst this;have h3:=hr.zFF;have:vs=#[]:=by simpa using h3
       subst this;exact h
    ·cases h
   ·cases h
  ·rename_i ht;rw[ht];exact h
end Go.Idl
namespace Go.Idl
variable [Gc]
variable {P:Program}{Z:Nat->Prop}{H:IH}{m:Nat->Nat}{ph:PHp}{G:Nat->Bool}{nat:xA}{tab:uQ}{inl:FuncId->Bool}{nm:Nm}
variable {F:Fence}{K:Act->World->Prop}{Q:Value×IH->Prop}{Qx:Exit->Act->World->Prop}{a:Act}{args:List Value}{as env:List PV}{f:Inj}{g:FuncId}{zFA:Env}{o:Oper}{zFO:Array Operand}{ph':PHp}{ts:Array TypeId}{w:World}{x:Operand}
def jF:Job->IH->T Out:=fun _ _=>.fail
theorem qDQ (hs:vI P G nat):kF P G (yJ jF nat):=by
 intro g args args' H f w Q hR hG ha h;unfold yJ at h;split at h
 ·rename_i k hk;exact hs g k hk args args' H f w Q hR hG ha h
 ·exact h.elim
theorem rF:kS P G jF:=by
 intro l args args' H f w e Q hR hG he ha hq;exact hq.elim
theorem qTA:vI P G fun _=>none:=fun g k h=>by cases h
noncomputable def d9 (g:FuncId)(args:List Value)(H:IH)(Q:Value×IH->Prop):xA:=by
 classical
 exact fun g1=>if g1=g then some (fun a h=>if a=args∧h=H then .sp Q .ret else .fail) else none
theorem qT8 {H:IH}(h:gP P G g args H Q):vI P G (d9 g args H Q):=by
 classical
 intro g1 k hk zKT args' H1 f1 w1 Q1 hR1 hG1 ha1 hq1;unfold d9 at hk;split at hk
 ·rename_i hg1;subst hg1;cases hk;change T.holds Q1 (if zKT=args∧H1=H then T.sp Q T.ret else T.fail) at hq1;split at hq1
  ·rename_i hc;obtain⟨rfl,rfl⟩:=hc;exact (h.mono fun r hr=>hq1 r hr) args' f1 w1 hR1 hG1 ha1
  ·exact hq1.elim
 ·cases hk
theorem qMN {H:IH}:yJ jF (d9 g args H Q) g args H=.sp Q .ret:=by
 classical
 unfold yJ d9;simp
def target (fv:PV)(args:List PV):Option (FuncId×List PV):=match fv with
 | .f (.v (.func (.func g) a c))=>cond (a.toList.isEmpty&&c.toList.isEmpty) (some (g,args)) none
 | .fn g first cap=>some (g,first++(args++cap))
 | _=>none
theorem oO {fv:PV}{args:List PV}{r:PE}(h:oV P tab inl fv args ph=r)(hr:r≠.fail)(hr2:∀ x a p,r≠.rnd x a p):∃ g as,target fv args=some (g,as)∧dV P tab inl g as ph=r:=by
 unfold oV at h;unfold target;split at h
 ·rename_i g a c
  cases hc:(a.toList.isEmpty&&c.toList.isEmpty) with
  | false=>rw[hc] at h;exact absurd h.symm hr
  | true=>rw[hc] at h;exact⟨g,args,(by simp only;rw[hc];rfl),h⟩
 ·exact absurd h.symm (hr2 _ _ _)
 ·exact⟨_,_,rfl,h⟩
 ·exact absurd h.symm hr
theorem nD (he:VRL P Z H (own m ph) env zFA)(h:target (qJ env x) (zFO.toList.map (qJ env))=some (g,as))(hent:enters P g=true) :
 ∃ zFN,yI P o ⟨.value x,zFO,ts⟩ zFA H=some (.enter g zFN H)∧VRL P Z H (own m ph) as zFN:=by
 have hx:=qK he x;have ha:=VRL.of he zFO.toList;unfold target at h;split at h
 ·rename_i g' a c hfv;rw[hfv] at hx;have hv:=yK hx rfl
  cases hc:(a.toList.isEmpty&&c.toList.isEmpty) with
  | false=>rw[hc] at h;cases h
  | true =>
    rw[hc] at h;cases h;rw[zMY] at hc;have e1:a.toList=[]:=by simpa using hc.1
    have e2:c.toList=[]:=by simpa using hc.2
    refine⟨_,qII hv hent,?_⟩;rw[e1,e2,xC];simpa [aS] using ha
 ·rename_i g' first cap hfv
  cases h;rw[hfv] at hx
  cases hv:zFA.val x with
  | func fn fs cs =>
    rw[hv] at hx
    cases hx with
    | fn hf hc hfc hcc =>
      refine⟨_,qII hv hent,?_⟩;rw[aS,aS,xC];exact VRL.append ⟨by simpa using hf,fun i x v a b=>hfc i x v a (by simpa using b)⟩ (ha.append ⟨by simpa using hc,fun i x v a b=>hcc i x v a (by simpa using b)⟩)
  | _=>rw[hv] at hx;cases hx
 ·cases h
theorem q80 (nm:Nm){k:Nat}(h:fresh nm k env ph=true):inP nm k=true∧zZ k env=true∧gZ k ph=true:=by
 unfold fresh at h;simp only[zMY] at h;exact h
theorem qLK (hF:aV F)(hns:vI P G nat)(ht:qR8 P nat tab){v:PV}(hR:Rel P f H w)(hG:uY G f)(zFI:qE P f zFA a.tmps.toList)
 (hok:o.op.operands.toList.all (kR (qX f))=true) (hp:Hp P Z H (own m ph)) (hb:H.base<=H.size) (he:VRL P Z H (own m ph) env zFA) (hx:bF P tab inl (qH nm o.dst) o env ph=.ok v ph') (hn:needs o.op=true->fresh nm (qH nm o.dst) env ph=true)
 (hK:∀ (Z':Nat->Prop) (m':Nat->Nat) (u:Value) (H':IH) (f':Inj) (v':Value) (w':World),Hp P Z' H' (own m' ph')->VR P Z' H' (own m' ph') v u->VRL P Z' H' (own m' ph') env zFA->Step Z H (own m ph) Z' H' (own m' ph')->KR (inP nm) (own m ph) (own m' ph') ->
   Rel P f' H' w'->Grow f H w f' H' w'->zFB P f' u v'->K (a.put o.dst v') w'):o.wpIn F 0 P a w K Qx:=by
 have plain:peO (q99 P o env (qH nm o.dst) ph)=.ok v ph'->o.wpIn F 0 P a w K Qx:=fun hx=>by
  unfold peO at hx;split at hx
  ·rename_i r hr;cases hx;obtain⟨u,H',Z',m',h1,h2,h3,h4,h5⟩:=q6L hp hb he (fun h=>(q80 nm (hn h)).2) hr;refine vW (run:=jF) (nat:=fun _=>none) (G:=G) (Q:=fun r=>r=(u,H')) hF (qDQ qTA) rF hR hG zFI hok ?_ ?_
   ·unfold rU;rw[h1];rfl
   ·rintro r v' w' f' rfl k1 k2 k3;refine hK Z' m' u H' f' v' w' h2 h3 ?_ h4 ?_ k1 k2 k3
    ·refine he.mono h4.zle h4.size (hp.zGZ h4) h5 fun j hj=>?_
     unfold nw at hj;rw[zMY] at hj;have:j=qH nm o.dst:=by simpa using hj.2
     subst this;exact (q80 nm (hn hj.1)).2.1
    ·refine h5.up fun j hj=>?_
     unfold nw at hj;rw[zMY] at hj;have:j=qH nm o.dst:=by simpa using hj.2
     subst this;exact (q80 nm (hn hj.1)).1
  ·cases hx
 unfold bF at hx;split at hx
 ·rename_i x zFO ts hop;obtain⟨g,as,h1,h2⟩:=oO hx (fun h=>by cases h) (fun _ _ _ h=>by cases h);unfold dV at h2
  cases hi:inl g with
  | true=>rw[hi] at h2;cases h2
  | false =>
    rw[hi] at h2;simp only[cond_false] at h2;unfold fU at h2;split at h2
    ·rename_i zGF ph1 hfz;split at h2
     ·rename_i r hr
      have hv:r=v∧cond (j4 r) ph ph1=ph':=by
       injection h2 with e1 e2;exact⟨e1,e2⟩
      obtain⟨rfl,hph⟩:=hv;obtain⟨hent,hfr,k,hk,zKC⟩:=ht g _ r hr;obtain⟨zFN,q1,q2⟩:=nD (o:=o) (ts:=ts) he h1 hent;obtain⟨Z1,c1,r1⟩:=qJE hp q2 hfz
      let Q:Value×IH->Prop:=fun x=>∃ Z':Nat->Prop,Old H x.2∧(∀ b,Z1 b->Z' b)∧(∀ b,Z' b->b < x.2.size)∧(∀ b,Z' b->b < H.size->Z1 b)∧VR P Z' x.2 (fun _=>none) r x.1
      have hQ:(k zFN H).holds Q:=zKC Z1 H zFN (q9X r1) c1.hp.zlt hb c1.hp.gl Q fun v H' Z' a1 a2 a3 a4 a5=>⟨Z',a1,a2,a3,a4,a5⟩
      refine vW (run:=jF) (nat:=nat) (G:=G) (Q:=Q) hF (qDQ hns) rF hR hG zFI hok ?_ ?_
      ·have:iop P o zFA H=some (.enter g zFN H):=by
        unfold iop;rw[hop];exact q1
       unfold rU;rw[this];show (yJ jF nat g zFN H).holds Q;unfold yJ;rw[hk];exact hQ
      ·rintro⟨u,H'⟩ v' w' f' ⟨Z',a1,a2,a3,a4,a5⟩ k1 k2 k3
       cases hpl:j4 r with
       | true =>
         rw[hpl] at hph;have hph:ph=ph':=hph;subst hph;have z1:∀ b,Z b->b < H'.size:=fun b hb=>zM4 (hp.zlt b hb) a1.size
         exact hK Z m u H' f' v' w' (hp.old a1 (fun _ h=>h) z1 (fun _ h _=>h)) (qDM a5 hpl _ _ _) (he.mono (p:=fun _=>false) (fun _ h=>h) a1.size (fun b _ hb=>a1.get b hb) (.refl _ _) (fun j hj=>by cases hj)) (.old a1 (fun _ h=>h) (fun _ h _=>h)) (.refl _ _) k1 k2 k3
       | false =>
         rw[hpl] at hph;have hph:ph1=ph':=hph;subst hph;exact hK Z' m u H' f' v' w' (c1.hp.old a1 a2 a3 a4) (q1T a5 hfr) ((c1.vrl he).mono (p:=fun _=>false) a2 a1.size (fun b _ hb=>a1.get b hb) (.refl _ _) (fun j hj=>by cases hj)) (c1.step.trans (.old a1 a2 a4)) (c1.kr _) k1 k2 k3
     ·cases h2
    ·cases h2
 ·exact plain hx
theorem q2K {f:Operand}{env:Env}{fs cs:Array Value}(hv:env.val f=.func (.func g) fs cs)(hx:qNH P g=true):fG P ⟨.value f,zFO,ts⟩ env H=none:=by
 unfold qNH at hx;unfold fG;simp only[hv];split at hx
 ·rename_i fn hfn;rw[zMY,zNJ] at hx;simp only[hfn]
  have h1:fn.body.isSome=false:=by
   cases hb:fn.body with
   | none=>rfl
   | some c=>rw[hb] at hx;cases hx.1
  rw[h1,hx.2];simp
 ·cases hx
theorem qL0:∀ {xs ys:List PV} {vs:List Value},plL (xs++ys)=some vs->∃ a b,vs=a++b∧plL xs=some a∧plL ys=some b
 | [],ys,vs,h=>⟨[],vs,rfl,rfl,h⟩
 | x::xs,ys,vs,h=>by
   rw[zPD] at h;unfold plL at h;split at h
   ·rename_i v hv;split at h
    ·rename_i l hl;cases h;obtain⟨a,b,rfl,h1,h2⟩:=qL0 hl;refine⟨v::a,b,rfl,?_,h2⟩;unfold plL;rw[hv,h1]
    ·cases h
   ·cases h
theorem q6U {vs:List Value}{v:Value}(hop:o.op=.call ⟨.value x,zFO,ts⟩)(he:VRL P Z H (own m ph) env zFA)(h:target (qJ env x) (zFO.toList.map (qJ env))=some (g,as))(hx:qNH P g=true)(hp:plL as=some vs)(zKU:(zQ vs&&jZ (kC 2) vs)=true)
 (hs:yB P (callFunc g vs.toArray)=some (.value v)) (hd:qJQ v=true):iop P o zFA H=some (.val v H):=by
 have hx0:=qK he x;have ha:=VRL.of he zFO.toList;rw[zMY] at zKU;obtain⟨hpl,hp2⟩:=zKU
 have key:∀ fs cs,zFA.val x=.func (.func g) fs cs->fs.toList++(kP zFA.val zFO.toList++cs.toList)=vs->yF (zFA.val x)=true->iop P o zFA H=some (.val v H):=fun fs cs hv hvs hpv=>by
  unfold iop;rw[hop];show yI P o ⟨.value x,zFO,ts⟩ zFA H=_;unfold yI;rw[q2K hv hx];unfold kG
  have hpo:zQ (kP zFA.val o.op.operands.toList)=true:=by
   rw[hop];have e:(Op.call ⟨.value x,zFO,ts⟩).operands.toList=x::zFO.toList:=by simp[Op.operands,Call.operands]
   rw[e,xC,zNH];rw[xC] at hvs
   have:zQ (zFO.toList.map zFA.val)=true:=by
    rw[<-hvs] at hpl;unfold zQ at hpl ⊢;rw[xN] at hpl ⊢;exact fun a ha=>hpl a (by simp only[zNM];exact .inr (.inl ha))
   unfold zQ at this ⊢;rw[vD,hpv,this];rfl
  rw[if_pos hpo]
  have he:execOp zFA.val o=(do let d <- resolve zFA.val ⟨.value x,zFO,ts⟩ o.type;invoke d.target d.args):=by
   unfold execOp;rw[hop]
  have hr:resolve zFA.val ⟨.value x,zFO,ts⟩ o.type=pure { target:=.fn (.func g) cs,args:=fs++zFO.map zFA.val }:=by
   unfold resolve Deferred.ofValue;simp only[hv]
  have:execOp zFA.val o=callFunc g vs.toArray:=by
   rw[he,hr];show invoke (.fn (.func g) cs) (fs++zFO.map zFA.val)=_;unfold invoke;simp only
   congr 1
   apply Array.toList_inj.1;rw[<-hvs,xC];simp
  rw[this,hs];show qAX H v=_;unfold qAX;rw[hd];rfl
 unfold target at h;split at h
 ·rename_i g' a c hfv;rw[hfv] at hx0;have hv:=yK hx0 rfl
  cases hc:(a.toList.isEmpty&&c.toList.isEmpty) with
  | false=>rw[hc] at h;cases h
  | true =>
    rw[hc] at h;cases h;rw[zMY] at hc;have e1:a.toList=[]:=by simpa using hc.1
    have e2:c.toList=[]:=by simpa using hc.2
    have e3:a=#[]:=by simpa using e1
    have e4:c=#[]:=by simpa using e2
    subst e3 e4;refine key _ _ hv ?_ (by rw[hv];rfl);have:=qIA ha (by simpa using hp);rw[xC];simpa using this
 ·rename_i g' first cap hfv
  cases h;rw[hfv] at hx0;obtain⟨a,b,rfl,p1,p2⟩:=qL0 hp;obtain⟨b,c,rfl,p3,p4⟩:=qL0 p2
  cases hv:zFA.val x with
  | func fn fs cs =>
    rw[hv] at hx0
    cases hx0 with
    | fn hf hc hfc hcc =>
      have q1:=qIA (vs:=fs.toList) ⟨by simpa using hf,fun i x v a b=>hfc i x v a (by simpa using b)⟩ p1;have q2:=qIA (vs:=cs.toList) ⟨by simpa using hc,fun i x v a b=>hcc i x v a (by simpa using b)⟩ p4;have q3:=qIA ha (by simpa using p3);refine key fs cs hv (by rw[q1,q2,xC];rw[<-q3]) ?_;rw[hv];rw[xN] at hp2;show (zAC (.func g)&&(jZ (kC 2) fs.toList&&jZ (kC 2) cs.toList))=true;rw[zMY,zMY,xN,xN];exact⟨rfl,fun y hy=>hp2 y (by rw[q1] at hy;simp[hy]),fun y hy=>hp2 y (by rw[q2] at hy;simp[hy])⟩
  | _=>rw[hv] at hx0;cases hx0
 ·cases h
theorem qOA {p:Nat->Bool}{env:List PV}:∀ {ph:PHp} {k:Nat},clean p env ph=true->(p k&&(qA k ph).isSome)=true->zZ k env=true
 | [],k,_,h=>by simp[qA] at h
 | (j,o)::ph,k,h,hk=>by
   have h:((!p j||zZ j env)&&clean p env ph)=true:=h;rw[zMY] at h hk;obtain⟨hk1,hk2⟩:=hk;have hk2:(cond (k==j) (some o) (qA k ph)).isSome=true:=hk2
   cases e:k==j with
   | true =>
     have:k=j:=by simpa using e
     subst this;have:=h.1;rw[hk1] at this;simpa using this
   | false =>
     rw[e] at hk2;exact qOA h.2 (by rw[hk1];exact hk2)
theorem KR.act {p:Nat->Bool}{M:Nat->Option (Nat×PO)}{m:Nat->Nat}{ph:PHp}(h:KR p M (own m ph)):KR (fun k=>p k&&(qA k ph).isSome) M (own m ph):=fun k b ob hk=>by
 rcases h k b ob hk with q | q | q
 ·exact .inl q
 ·exact .inr (.inl q)
 ·obtain⟨hl,_⟩:=vL hk;exact .inr (.inr (by show (p k&&(qA k ph).isSome)=true;rw[q,hl];rfl))
theorem q42 (hF:aV F){jj:FuncId}{R:PV->PHp->Prop}(hR:Rel P f H w)(hG:uY G f)(zFI:qE P f zFA a.tmps.toList)
 (hok:o.op.operands.toList.all (kR (qX f))=true) (hp:Hp P Z H (own m ph)) (hb:H.base<=H.size) (he:VRL P Z H (own m ph) env zFA) (hx:bF P tab inl (qH nm o.dst) o env ph=.call g as ph') (hc:qDE P G (qUM nm jj) g as ph' R) (hcl:∀ v ph2,R v ph2->clean (qUM nm jj).p env ph2=true)
 (hK:∀ (Z':Nat->Prop) (m':Nat->Nat) (v:PV) (ph2:PHp) (u:Value) (H':IH) (f':Inj) (v':Value) (w':World),R v ph2->Hp P Z' H' (own m' ph2)->VR P Z' H' (own m' ph2) v u->VRL P Z' H' (own m' ph2) env zFA->Step Z H (own m ph) Z' H' (own m' ph2)->KR (inP nm) (own m ph) (own m' ph2) ->
   Rel P f' H' w'->Grow f H w f' H' w'->zFB P f' u v'->K (a.put o.dst v') w'):o.wpIn F 0 P a w K Qx:=by
 unfold bF at hx;split at hx
 ·rename_i x zFO ts hop;obtain⟨g1,as1,h1,h2⟩:=oO hx (fun h=>by cases h) (fun _ _ _ h=>by cases h);unfold dV at h2
  cases hi:inl g1 with
  | false =>
    rw[hi] at h2;exfalso;have h2:fU P tab g1 as1 ph=.call g as ph':=h2;unfold fU at h2;split at h2
    ·split at h2 <;> cases h2
    ·cases h2
  | true =>
    rw[hi] at h2;have h2:PE.call g1 as1 ph=.call g as ph':=h2;cases h2
    rcases hc with ⟨hxt,vs,xv,x1,x2,x3,x4,x5⟩ | ⟨hent,hc⟩
    ·refine vW (run:=jF) (nat:=fun _=>none) (G:=G) (Q:=fun r=>r=(xv,H)) hF (qDQ qTA) rF hR hG zFI hok ?_ ?_
     ·unfold rU;rw[q6U hop he h1 hxt x1 x2 x3 x4];rfl
     ·rintro r v' w' f' rfl k1 k2 k3;exact hK Z m _ _ xv H f' v' w' x5 hp (qBK xv) he (.refl _ _ _) (.refl _ _) k1 k2 k3
    obtain⟨zFN,q1,q2⟩:=nD (o:=o) (ts:=ts) he h1 hent;have hci:=hc Z H m zFN hp hb q2;refine vW (run:=jF) (nat:=d9 g zFN H _) (G:=G) hF (qDQ (qT8 hci)) rF hR hG zFI hok (Q:=fun r=>∃ Z' m' pv ph',Hp P Z' r.2 (own m' ph')∧VR P Z' r.2 (own m' ph') pv r.1∧Step Z H (own m ph) Z' r.2 (own m' ph')∧KR (qUM nm jj).p (own m ph) (own m' ph')∧R pv ph') ?_ ?_
    ·have:iop P o zFA H=some (.enter g zFN H):=by
      unfold iop;rw[hop];exact q1
     unfold rU;rw[this];show (yJ jF (d9 g zFN H _) g zFN H).holds _;rw[qMN];intro r hr;exact hr
    ·rintro⟨u,H'⟩ v' w' f' ⟨Z',m',pv,ph2,b1,b2,b3,b4,b5⟩ k1 k2 k3
     exact hK Z' m' pv ph2 u H' f' v' w' b5 b1 b2 (he.mono b3.zle b3.size (hp.zGZ b3) (KR.act b4) fun j hj=>qOA (hcl _ _ b5) hj) b3 (b4.up fun k h=>by
      have h:(inB _ k&&nm.p k)=true:=h;rw[zMY] at h
      exact h.2) k1 k2 k3
 ·unfold peO at hx;split at hx <;> cases hx
end Go.Idl
namespace Go.Idl
variable [Gc]
variable {P:Program}{G:Nat->Bool}{nat:xA}{tab:uQ}{inl:FuncId->Bool}{nm:Nm}{rd:Bool}{good:FuncId->Bool}
variable {k n:Nat}
structure zF2 (P:Program) (good:FuncId->Bool) (nat:xA) (G:Nat->Bool) (tab:uQ):Prop where
 s:Setup P good nat G
 t:qR8 P nat tab
abbrev PQ:=zGB->List PV->PHp->Prop
def Runs (P:Program)(G:Nat->Bool)(rd:Bool)(nm:Nm)(c:Code)(env:List PV)(ph:PHp)(Q:PQ):Prop :=
 ∀ (Z:Nat->Prop) (H:IH) (m:Nat->Nat) (zFA:Env),Hp P Z H (own m ph)->H.base<=H.size->VRL P Z H (own m ph) env zFA ->
  Holds P G rd c zFA H fun o=>∃ Z' m' env' ph',Hp P Z' o.H (own m' ph')∧VRL P Z' o.H (own m' ph') env' o.env∧Step Z H (own m ph) Z' o.H (own m' ph')∧KR (inP nm) (own m ph) (own m' ph')∧Q o.e env' ph'
theorem Runs.mono {c:Code}{env:List PV}{ph:PHp}{Q Q':PQ}(h:Runs P G rd nm c env ph Q)(hq:∀ e env ph,Q e env ph->Q' e env ph):Runs P G rd nm c env ph Q' :=
 fun Z H m zFA hp hb he=>(h Z H m zFA hp hb he).mono fun o ⟨Z',m',env',ph',a,b,c,d,e⟩=>⟨Z',m',env',ph',a,b,c,d,hq _ _ _ e⟩
inductive WkP:List PV->List PV->Prop
 | nil:WkP [] []
 | same {x:PV} {l m:List PV} (h:WkP l m):WkP (x::l) (x::m)
 | any {x:PV} {l m:List PV} (h:WkP l m):WkP (x::l) (.unk::m)
theorem WkP.refl:∀ (l:List PV),WkP l l
 | []=>.nil
 | _::l=>.same (WkP.refl l)
theorem WkP.rel {Z:Nat->Prop}{H:IH}{M:Nat->Option (Nat×PO)}{l m:List PV}(h:WkP l m):∀ {vs:List Value},VRL P Z H M l vs->VRL P Z H M m vs:=by
 induction h with
 | nil=>intro vs hx;exact hx
 | same _ ih=>intro vs hx;obtain⟨v,vs',rfl,h1,h2⟩:=hx.zFD;exact .cons h1 (ih h2)
 | any _ ih=>intro vs hx;obtain⟨v,vs',rfl,h1,h2⟩:=hx.zFD;exact .cons .unk (ih h2)
def qBO (p q:PHp):Prop:=∀ k ob,qA k p=some ob->qA k q=some ob
theorem qBO.refl (p:PHp):qBO p p:=fun _ _ h=>h
theorem qBO.nil (p:PHp):qBO [] p:=fun _ _ h=>by cases h
theorem qBO.cons {p q:PHp}{ob:PO}(h:qBO p q):qBO ((k,ob)::p) ((k,ob)::q):=fun j o hj=>by
 show cond (j==k) (some ob) (qA j q)=some o;have hj:cond (j==k) (some ob) (qA j p)=some o:=hj
 cases e:(j==k) with
 | true=>rw[e] at hj;exact hj
 | false=>rw[e] at hj;exact h j o hj
theorem Runs.cond {v:Operand}{x y:Code}{env:List PV}{ph:PHp}{Q:PQ}{t:Bool}(hok:kR G v=true)(hv:qJ env v=fvv (.bool t))(hx:t=true->Runs P G rd nm x env ph Q)(hy:t=false->Runs P G rd nm y env ph Q):Runs P G rd nm (.cond v x y) env ph Q:=by
 intro Z H m zFA hp hb he;have hr:=qK he v;rw[hv] at hr;exact .cond hok (yK hr rfl) (fun ht=>hx ht Z H m zFA hp hb he) (fun ht=>hy ht Z H m zFA hp hb he)
theorem Runs.ret {env:List PV}{ph:PHp}{Q:PQ}(h:Q .ret env ph):Runs P G rd nm .ret env ph Q :=
 fun Z H m zFA hp hb he=>.ret ⟨Z,m,env,ph,hp,he,.refl _ _ _,.refl _ _,h⟩
def vN {σ ρ:Type}:Nat->(σ->Option (σ⊕ρ))->σ->Option ρ
 | 0,_,_=>none
 | n+1,f,s=>match f s with
   | some (.inl s')=>vN n f s'
   | some (.inr r)=>some r
   | none=>none
theorem qEZ {σ ρ:Type}{f:σ->Option (σ⊕ρ)}:∀ {n:Nat} {s:σ} {r:ρ},vN n f s=some r->vN (n+1) f s=some r
 | 0,_,_,h=>by cases h
 | n+1,s,r,h=>by
   unfold vN at h ⊢
   cases hf:f s with
   | none=>rw[hf] at h;cases h
   | some x =>
     rw[hf] at h
     cases x with
     | inl s'=>exact qEZ h
     | inr r=>exact h
theorem qN1 {σ ρ:Type}{f:σ->Option (σ⊕ρ)}{s:σ}{r:ρ}(h:vN n f s=some r)(hk:n<=k):vN k f s=some r:=by
 induction hk with
 | refl=>exact h
 | step _ ih=>exact qEZ ih
open Classical in
noncomputable def qGZ {σ ρ:Type}(f:σ->Option (σ⊕ρ))(s:σ):Option ρ:=if h:∃ r n,vN n f s=some r then some (Classical.choose h) else none
noncomputable def qWM {σ ρ:Type}(f:σ->Option (σ⊕ρ))(n:Nat):σ->(σ->Option ρ)->Option ρ :=
 Nat.rec (fun s k=>k s) (fun _ ih s k=>Option.rec none (fun x=>Sum.rec (fun s'=>ih s' k) (fun r=>some r) x) (f s)) n
noncomputable def zG {σ ρ:Type}(f:σ->Option (σ⊕ρ))(s:σ):Option ρ:=qWM f 1000000 s fun s=>qGZ f s
theorem qZM {σ ρ:Type}{f:σ->Option (σ⊕ρ)}{s:σ}{r:ρ}(h:vN n f s=some r):qGZ f s=some r:=by
 have he:∃ r n,vN n f s=some r:=⟨r,n,h⟩
 unfold qGZ;rw[dif_pos he];obtain⟨k,hk⟩:=Classical.choose_spec he;have h1:=qN1 h (Nat.le_max_left n k);have h2:=qN1 hk (Nat.le_max_right n k);rw[h1] at h2;exact h2.symm
theorem qUY {σ ρ:Type}{f:σ->Option (σ⊕ρ)}{s:σ}{r:ρ}(h:qGZ f s=some r):∃ n,vN n f s=some r:=by
 unfold qGZ at h;split at h
 ·rename_i he;cases h;exact Classical.choose_spec he
 ·cases h
theorem qO4 {σ ρ:Type}{f:σ->Option (σ⊕ρ)}{r:ρ}:∀ (k:Nat) {n:Nat} {s:σ},vN n f s=some r->qWM f k s (fun s=>qGZ f s)=some r
 | 0,_,_,h=>qZM h
 | _+1,0,_,h=>by cases h
 | k+1,n+1,s,h=>by
   unfold vN at h;show Option.rec none (fun x=>Sum.rec (fun s'=>qWM f k s' fun s=>qGZ f s) (fun r=>some r) x) (f s)=some r
   cases hf:f s with
   | none=>rw[hf] at h;cases h
   | some x =>
     rw[hf] at h
     cases x with
     | inl s'=>exact qO4 k h
     | inr r=>exact h
theorem qK0 {σ ρ:Type}{f:σ->Option (σ⊕ρ)}{r:ρ}:∀ (k:Nat) {s:σ},qWM f k s (fun s=>qGZ f s)=some r->∃ n,vN n f s=some r
 | 0,_,h=>qUY h
 | k+1,s,h=>by
   have h:Option.rec none (fun x=>Sum.rec (fun s'=>qWM f k s' fun s=>qGZ f s) (fun r=>some r) x) (f s)=some r:=h
   cases hf:f s with
   | none=>rw[hf] at h;cases h
   | some x =>
     rw[hf] at h
     cases x with
     | inl s'=>obtain⟨n,hn⟩:=qK0 k h;exact⟨n+1,by unfold vN;rw[hf];exact hn⟩
     | inr r'=>exact⟨1,by unfold vN;rw[hf];exact h⟩
theorem qHI {σ ρ:Type}{f:σ->Option (σ⊕ρ)}{s:σ}{r:ρ}(h:vN n f s=some r):zG f s=some r:=qO4 _ h
theorem bJ {σ ρ:Type}{f:σ->Option (σ⊕ρ)}{s:σ}{r:ρ}(h:zG f s=some r):∃ n,vN n f s=some r:=qK0 _ h
theorem wC {σ ρ:Type}(f:σ->Option (σ⊕ρ))(s:σ):zG f s=(match f s with
 | some (.inl s')=>zG f s'
 | some (.inr r)=>some r
 | none=>none):=by
 cases hf:f s with
 | none =>
   cases hl:zG f s with
   | none=>rfl
   | some r =>
     obtain⟨n,hn⟩:=bJ hl
     cases n with
     | zero=>cases hn
     | succ n=>unfold vN at hn;rw[hf] at hn;cases hn
 | some x =>
   cases x with
   | inr r=>exact qHI (n:=1) (by unfold vN;rw[hf])
   | inl s' =>
     simp only
     cases hl:zG f s' with
     | some r =>
       obtain⟨n,hn⟩:=bJ hl;exact qHI (n:=n+1) (by unfold vN;rw[hf];exact hn)
     | none =>
       cases hl2:zG f s with
       | none=>rfl
       | some r =>
         obtain⟨n,hn⟩:=bJ hl2
         cases n with
         | zero=>cases hn
         | succ n=>unfold vN at hn;rw[hf] at hn;rw[qHI hn] at hl;cases hl
end Go.Idl
namespace Go.Idl
variable [Gc]
variable {P:Program}{G:Nat->Bool}{nat:xA}{tab:uQ}{nm:Nm}{good:FuncId->Bool}{Z:Nat->Prop}{H:IH}{M:Nat->Option (Nat×PO)}
variable {env xs:List PV}{g:FuncId}{zFA:Env}{m:Nat->Nat}{ph:PHp}{v:Value}{vs:List Value}{x y:PV}
theorem FR.inter {Z0:Nat->Prop}{x:FV}(h0:FR Z0 H x v):∀ {S:(Nat->Prop)->Prop},(∀ Z,S Z->FR Z H x v)->FR (fun b=>∀ Z,S Z->Z b) H x v:=by
 induction h0 with
 | v hp h1=>exact fun _=>.v hp h1
 | nil h0 hs=>exact fun _=>.nil h0 hs
 | @l el n cs b o sp c vs hz hb hn hs hl hc ih =>
   intro S hS;by_cases he:cs=[]∧n=0
   ·obtain⟨rfl,rfl⟩:=he;exact .nil (fun h=>by cases h) (fun x h=>by cases h;exact hs)
   ·refine .l (fun Z hZ=>?_) hb hn hs hl fun i x v h1 h2=>ih i x v h1 h2 fun Z hZ=>?_
    ·cases hS Z hZ with
     | nil=>exact absurd ⟨rfl,rfl⟩ he
     | l hz=>exact hz
    ·cases hS Z hZ with
     | nil=>simp at h1
     | l _ _ _ _ hl' hc' =>
       rw[hl] at hl';cases hl';exact hc' i x v h1 h2
theorem VR.inter {Z0:Nat->Prop}{x:PV}{v:Value}(h0:VR P Z0 H (fun _=>none) x v):∀ {S:(Nat->Prop)->Prop},(∀ Z,S Z->VR P Z H (fun _=>none) x v)->VR P (fun b=>∀ Z,S Z->Z b) H (fun _=>none) x v:=by
 induction h0 with
 | f h=>exact fun hS=>.f (h.inter fun Z hZ=>by cases hS Z hZ with | f h=>exact h)
 | agg hl hc ih=>exact fun hS=>.agg hl fun i x v h1 h2=>ih i x v h1 h2 fun Z hZ=>by cases hS Z hZ with | agg _ hc'=>exact hc' i x v h1 h2
 | tup hl hc ih=>exact fun hS=>.tup hl fun i x v h1 h2=>ih i x v h1 h2 fun Z hZ=>by cases hS Z hZ with | tup _ hc'=>exact hc' i x v h1 h2
 | own h1 h=>exact fun _=>.own h1 fun b ob hM=>by cases hM
 | ref h1 h=>exact fun _=>.ref h1 fun b ob hM=>by cases hM
 | mp h1 h=>exact fun _=>.mp h1 fun b ob hM=>by cases hM
 | asl h1 h=>exact fun _=>.asl h1 fun b ob hM=>by cases hM
 | @lp cs off b o vs hz hb hl hc =>
   intro S hS
   have key:∀ Z,S Z->∃ b' o' vs',b'=b∧o'=o∧Z b'∧H.loads b' o' cs.length=some vs'∧∀ (i:Nat) x v,cs[i]?=some x->vs'[i]?=some v->FR Z H x v:=fun Z hZ=>by
    generalize hq:(Value.pointer (some ⟨b,o+off,none⟩))=q at hS;have h:=hS Z hZ
    cases h with
    | lp hz' hb' hl' hc' =>
      simp only[Value.pointer.injEq,zM7,Addr.mk.injEq,and_true] at hq;obtain⟨rfl,hq⟩:=hq;exact⟨_,_,_,rfl,by omega,hz',hl',hc'⟩
   refine .lp (fun Z hZ=>?_) hb hl fun i x v h1 h2=>(hc i x v h1 h2).inter fun Z hZ=>?_
   ·obtain⟨b',o',vs',rfl,rfl,q,_⟩:=key Z hZ;exact q
   ·obtain⟨b',o',vs',rfl,rfl,_,q2,q3⟩:=key Z hZ;rw[hl] at q2;cases q2;exact q3 i x v h1 h2
 | fn hf hc hfc hcc i1 i2=>exact fun hS=>.fn hf hc (fun i x v h1 h2=>i1 i x v h1 h2 fun Z hZ=>by cases hS Z hZ with | fn _ _ q _=>exact q i x v h1 h2) (fun i x v h1 h2=>i2 i x v h1 h2 fun Z hZ=>by cases hS Z hZ with | fn _ _ _ q=>exact q i x v h1 h2)
 | yl=>exact fun _=>.yl
 | bq=>exact fun _=>.bq
 | unk=>exact fun _=>.unk
def q7X (P:Program)(H:IH)(xs:List PV)(vs:List Value):Nat->Prop:=fun b=>∀ Z,VRL P Z H (fun _=>none) xs vs->Z b
theorem q5R (h:VRL P Z H (fun _=>none) xs vs):VRL P (q7X P H xs vs) H (fun _=>none) xs vs :=
 ⟨h.len,fun i x v h1 h2=>(h.val i x v h1 h2).inter (S:=fun Z=>VRL P Z H (fun _=>none) xs vs) fun Z hZ=>hZ.val i x v h1 h2⟩
theorem qVH (h:VRL P Z H (fun _=>none) xs vs){b:Nat}(hb:q7X P H xs vs b):Z b:=hb Z h
noncomputable def q1Y (P:Program)(env:List PV)(ph:PHp):ResultVar->Option PV
 | .tmp t=>some ((zJ env t).getD .unk)
 | .cell a t=>fH P t ((zJ env a).getD .unk) ph
noncomputable def qGI (P:Program)(env:List PV)(ph:PHp):List ResultVar->Option (List PV)
 | []=>some []
 | r::l=>match q1Y P env ph r with
   | some v=>(match qGI P env ph l with
     | some vs=>some (v::vs)
     | none=>none)
   | none=>none
def qDC:List PV->PV
 | [v]=>v
 | vs=>.tup vs
noncomputable def vX (P:Program)(fn:Func)(env:List PV)(ph:PHp):Option PV:=(qGI P env ph fn.results.toList).map fun xs=>qDC (rtL (rt1 P) fn.resultTypes.toList xs)
theorem q0Y {r:ResultVar}(hp:Hp P Z H (own m ph))(he:VRL P Z H (own m ph) env zFA)(h:q1Y P env ph r=some x):∃ v,qZ6 P zFA H r=some v∧VR P Z H (own m ph) x v:=by
 cases r with
 | tmp t=>cases h;exact⟨_,rfl,qK he (.tmp t)⟩
 | cell a t=>exact qO7 hp (qK he (.tmp a)) h
theorem qOH {m:Nat->Nat}{ph:PHp}{env:List PV}{zFA:Env}(hp:Hp P Z H (own m ph))(he:VRL P Z H (own m ph) env zFA):∀ {l:List ResultVar} {xs:List PV},qGI P env ph l=some xs->∃ vs,qL9 P zFA H l=some vs∧VRL P Z H (own m ph) xs vs
 | [],xs,h=>by cases h;exact⟨[],rfl,.nil⟩
 | r::l,xs,h=>by
   unfold qGI at h;split at h
   ·rename_i x hx;split at h
    ·rename_i xs' hxs;cases h;obtain⟨v,h1,h2⟩:=q0Y hp he hx;obtain⟨vs,h3,h4⟩:=qOH hp he hxs;exact⟨v::vs,by unfold qL9;rw[h1,h3],.cons h2 h4⟩
    ·cases h
   ·cases h
theorem mK {fn:Func}(hp:Hp P Z H (own m ph))(he:VRL P Z H (own m ph) env zFA)(h:vX P fn env ph=some x):∃ v,vZ P fn zFA H=some v∧VR P Z H (own m ph) x v:=by
 unfold vX at h;obtain⟨xs,h1,rfl⟩:=zM8.1 h;obtain⟨vs,h2,h3⟩:=qOH hp he h1
 replace h3:=qD7 (f:=rt1 P) (ts:=fn.resultTypes.toList) (fun t x v h=>qE3 h) h3
 revert h3
 generalize rtL (rt1 P) fn.resultTypes.toList xs=xs;intro h3;refine⟨one vs,by unfold vZ;rw[h2];rfl,?_⟩
 match xs,h3 with
 | [],h3=>rw[h3.zFF];exact VRL.zHM (vs:=#[]) .nil
 | [x],h3 =>
   obtain⟨v,vs',rfl,a,b⟩:=h3.zFD;rw[b.zFF];exact a
 | x::y::l,h3 =>
   obtain⟨v,vs',rfl,a,b⟩:=h3.zFD;obtain⟨v2,vs2,rfl,a2,b2⟩:=b.zFD;exact VRL.zHM (vs:=(v::v2::vs2).toArray) (by simpa using VRL.cons a (VRL.cons a2 b2))
noncomputable def fzR (P:Program)(ph:PHp):PV->Option PV
 | .tup xs=>(match fzA P xs ph with
   | some (ys,_)=>some (.tup ys)
   | none=>none)
 | x=>(match fzP P ph x with
   | some (y,_)=>some y
   | none=>none)
theorem zA4 (hp:Hp P Z H (own m ph))(hx:VR P Z H (own m ph) x v)(h:fzR P ph x=some y):∃ Z' ph',Fz P Z H m ph Z' ph'∧VR P Z' H (fun _=>none) y v:=by
 unfold fzR at h;split at h
 ·split at h
  ·rename_i ys ph' hf;cases h;obtain⟨vs,rfl,hr⟩:=hx.zJG;obtain⟨Z',h1,h2⟩:=qJE hp hr hf;exact⟨Z',ph',h1,h2.zHM⟩
  ·cases h
 ·split at h
  ·rename_i y' ph' hf;cases h;obtain⟨Z',h1,h2⟩:=qJ2 hp hx hf;exact⟨Z',ph',h1,h2⟩
  ·cases h
structure PEn (α:Type) where
 p:α->PV
 inj:∀ x y,p x=p y->x=y
 uniq:∀ (P:Program) (Z Z':Nat->Prop) (H:IH) (x y:α) (v:Value),VR P Z H (fun _=>none) (p x) v->VR P Z' H (fun _=>none) (p y) v->x=y
structure AEn (α:Type) where
 p:α->List PV
 inj:∀ x y,p x=p y->x=y
 uniq:∀ (P:Program) (Z Z':Nat->Prop) (H:IH) (x y:α) (vs:List Value),VRL P Z H (fun _=>none) (p x) vs->VRL P Z' H (fun _=>none) (p y) vs->x=y
def AEn.nil:AEn Unit:=⟨fun _=>[],fun _ _ _=>rfl,fun _ _ _ _ _ _ _ _ _=>rfl⟩
def AEn.cons {α β:Type}(a:PEn α)(b:AEn β):AEn (α×β):=⟨fun x=>a.p x.1::b.p x.2,fun x y h=>by
 simp only[zNW] at h
 exact Prod.ext (a.inj _ _ h.1) (b.inj _ _ h.2),fun P Z Z' H x y vs h1 h2=>by
 obtain⟨v,vs',rfl,a1,b1⟩:=h1.zFD;obtain⟨v',vs2,e,a2,b2⟩:=h2.zFD;simp only[zNW] at e;obtain⟨rfl,rfl⟩:=e
 exact Prod.ext (a.uniq P Z Z' H _ _ _ a1 a2) (b.uniq P Z Z' H _ _ _ b1 b2)⟩
open Classical in
noncomputable def ofF {α β:Type}(a:AEn α)(F:α->Option β)(r:β->PV)(xs:List PV):Option PV :=
 if h:∃ x,xs=a.p x then (F (Classical.choose h)).map r else none
theorem qP1 {α β:Type}{a:AEn α}{F:α->Option β}{r:β->PV}(x:α):ofF a F r (a.p x)=(F x).map r:=by
 have h:∃ y,a.p x=a.p y:=⟨x,rfl⟩
 unfold ofF;rw[dif_pos h];rw[<-a.inj _ _ (Classical.choose_spec h)]
theorem qTL {α β:Type}{a:AEn α}{F:α->Option β}{r:β->PV}(h:ofF a F r xs=some y):∃ x z,xs=a.p x∧F x=some z∧y=r z:=by
 unfold ofF at h;split at h
 ·rename_i he;obtain⟨z,h1,h2⟩:=zM8.1 h;exact⟨_,z,Classical.choose_spec he,h1,h2.symm⟩
 ·cases h
def q2Z (tab:uQ)(g:FuncId)(F:List PV->Option PV):uQ:=fun x xs=>cond (Nat.beq x g) (F xs) (tab x xs)
def zBK {α β:Type}(P:Program)(a:AEn α)(F:α->Option β)(x:α)(args:List Value)(H:IH):Prop:=(∃ Z:Nat->Prop,VRL P Z H (fun _=>none) (a.p x) args∧∀ b,Z b->b < H.size)∧H.base<=H.size∧GlH H∧∃ y,F x=some y
def q1M {α β:Type}(P:Program)(a:AEn α)(F:α->Option β)(r:β->PV)(x:α)(args:List Value)(H:IH)(v:Value)(H':IH):Prop:=Old H H'∧∃ y,F x=some y∧∃ Z':Nat->Prop,(∀ b,Z' b->b < H'.size)∧(∀ b,Z' b->b < H.size->q7X P H (a.p x) args b∨zAO b)∧VR P Z' H' (fun _=>none) (r y) v
def zEK {α β:Type}(P:Program)(G:Nat->Bool)(g:FuncId)(nm:Nm)(a:AEn α)(F:α->Option β)(r:β->PV):Prop :=
 ∃ fn c,P.funcs[g]?=some fn∧fn.body=some c∧∀ x y,F x=some y->∃ N,fn.ntmps=N∧Runs P G false nm c (a.p x++List.replicate (N - (a.p x).length) .unk) [] fun e env ph=>(e=.normal∨e=.ret)∧∃ r0,vX P fn env ph=some r0∧fzR P ph r0=some (r y)
theorem zF2.zGW {α β:Type}(s:zF2 P good nat G tab)(a:AEn α)(F:α->Option β)(r:β->PV)(hent:enters P g=true)(hfr:∀ y,q5P (r y)=true)
 (h:∀ (x:α) (y:β) (args:List Value) (H:IH),F x=some y->(∃ Z:Nat->Prop,VRL P Z H (fun _=>none) (a.p x) args∧∀ b,Z b->b < H.size)->H.base<=H.size->GlH H->gP P G g args H fun q=>q1M P a F r x args H q.1 q.2) :
 zF2 P good (zG4 nat g (fun (x:α×List Value) args H=>x.2=args∧zBK P a F x.1 args H) (fun x H v H'=>q1M P a F r x.1 x.2 H v H')) G (q2Z tab g (ofF a F r)):=by
 have uniq:∀ (x y:α×List Value) (args:List Value) (H:IH),(x.2=args∧zBK P a F x.1 args H)->(y.2=args∧zBK P a F y.1 args H)->x=y:=by
  rintro⟨x,as⟩ ⟨y,bs⟩ args H ⟨e1,⟨Z1,h1,_⟩,_⟩ ⟨e2,⟨Z2,h2,_⟩,_⟩;simp only at e1 e2 h1 h2;subst e1 e2;rw[a.uniq P Z1 Z2 H x y _ h1 h2]
 refine⟨s.s.zG4 _ _ ?_,?_⟩
 ·rintro⟨x,as⟩ args H ⟨e1,⟨Z0,h0,hz0⟩,hb,hgl,y,hy⟩;simp only at e1 h0 hy;subst e1;exact h x y as H hy ⟨Z0,h0,hz0⟩ hb hgl
 ·intro g' zG7 r' ht;unfold q2Z at ht
  cases hg:Nat.beq g' g with
  | false =>
    rw[hg] at ht;obtain⟨t1,t2,k,t3,t4⟩:=s.t g' zG7 r' ht;refine⟨t1,t2,k,?_,t4⟩;unfold zG4;rw[hg];exact t3
  | true =>
    rw[hg] at ht;have hg':g'=g:=zMZ hg;subst hg';obtain⟨x,y,rfl,hF,rfl⟩:=qTL ht;refine⟨hent,hfr y,_,by unfold zG4;rw[hg];rfl,?_⟩;intro Z H args hv hz hb hgl Q hQ
    have hpre:(fun (x:α×List Value) args H=>x.2=args∧zBK P a F x.1 args H) (x,args) args H:=⟨rfl,⟨Z,hv,hz⟩,hb,hgl.h hz,y,hF⟩
    rw[q87 uniq hpre];rintro⟨v,H'⟩ ⟨o1,y',hy',Z',o2,o3,o4⟩;simp only at hy' o4;rw[hF] at hy';cases hy';refine hQ v H' (fun b=>Z b∨Z' b) o1 (fun b h=>.inl h) ?_ ?_ ?_
    ·rintro b (h | h)
     ·exact zM4 (hz b h) o1.size
     ·exact o2 b h
    ·rintro b (h | h) hlt
     ·exact h
     ·rcases o3 b h hlt with q | ⟨o,q⟩
      ·exact qVH hv q
      ·exact (hgl b o q).1
    ·exact o4.mono (p:=fun _=>false) (fun _ h=>.inr h) (zM0 _) (fun _ _ _=>rfl) (.refl _ _) fun j hj=>by cases hj
theorem zF2.add {α β:Type}(s:zF2 P good nat G tab){nm:Nm}(a:AEn α)(F:α->Option β)(r:β->PV)(hent:enters P g=true)(hfr:∀ y,q5P (r y)=true)(h:zEK P G g nm a F r) :
 zF2 P good (zG4 nat g (fun (x:α×List Value) args H=>x.2=args∧zBK P a F x.1 args H) (fun x H v H'=>q1M P a F r x.1 x.2 H v H')) G (q2Z tab g (ofF a F r)) :=
 s.zGW a F r hent hfr fun x y as H hy ⟨Z0,h0,hz0⟩ hb hgl=>by
  obtain⟨fn,c,q1,q2,q3⟩:=h;obtain⟨N,hN,hrun⟩:=q3 x y hy;have hf:=(q5R h0).mono (p:=fun _=>false) (Z':=fun b=>q7X P H (a.p x) as b∨zAO b) (fun _ h=>.inl h) (zM0 _) (fun _ _ _=>rfl) (.refl _ _) (fun j hj=>by cases hj)
  have zLU:∀ b,q7X P H (a.p x) as b∨zAO b->b < H.size:=fun b hb=>by
   rcases hb with hb | ⟨o,hb⟩
   ·exact hz0 b (qVH h0 hb)
   ·exact (hgl b o hb).1
  refine gP.of q1 q2 hN ?_
  have hp0:Hp P (fun b=>q7X P H (a.p x) as b∨zAO b) H (own (fun _=>0) []):=⟨zLU,fun k b ob hk=>(by cases hk),fun k k' b b' ob ob' hk=>(by cases hk),fun g o hg=>⟨.inr ⟨o,hg⟩,(hgl g o hg).2⟩⟩
  have e0:own (fun _=>0) []=fun _=>none:=rfl
  have hlen:=h0.len
  have zFI:VRL P (fun b=>q7X P H (a.p x) as b∨zAO b) H (own (fun _=>0) []) (a.p x++List.replicate (N - (a.p x).length) .unk) (as++List.replicate (N - as.length) undef):=by
   rw[hlen];refine VRL.append hf ⟨by simp,fun i z v h1 h2=>?_⟩;rw[zP9] at h1;split at h1
   ·cases h1;exact .unk
   ·cases h1
  refine (hrun _ H _ _ hp0 hb zFI).mono ?_;rintro o ⟨Z',m',env',ph',a1,b1,c1,d1,he,r0,hr0,hfz⟩;refine⟨he,?_⟩;obtain⟨v,v1,v2⟩:=mK a1 b1 hr0;obtain⟨Z2,ph2,w1,w2⟩:=zA4 a1 v2 hfz;have noO:∀ b,¬ bV (own (fun _=>0) []) b:=fun b ⟨k,ob,hk,_⟩=>by cases hk
  refine⟨v,v1,⟨c1.size,c1.base,fun b hb=>c1.keep b hb (noO b)⟩,y,hy,Z2,w1.hp.zlt,fun b hb hlt=>?_,w2⟩;rcases w1.zGD b hb with h | h
  ·rcases c1.zGD b h hlt with h | h
   ·exact h
   ·exact absurd h (noO b)
  ·exact absurd (c1.onew b h hlt) (noO b)
end Go.Idl
namespace Go.Idl
variable [Gc]
variable {P:Program}{G:Nat->Bool}{nat:xA}{tab:uQ}{inl:FuncId->Bool}{nm:Nm}{good:FuncId->Bool}{Z:Nat->Prop}{H:IH}{M:Nat->Option (Nat×PO)}
variable {args:List PV}{c:Int}{ph':PHp}{v:Value}{w:Bool}{ws:List Value}{xs:List FV}
structure C1 (α:Type) where
 f:α->FV
 inj:∀ x y,f x=f y->x=y
 uniq:∀ (Z Z':Nat->Prop) (H:IH) (x y:α) (v:Value),FR Z H (f x) v->FR Z' H (f y) v->x=y
theorem qLF {x:Value}(h:FR Z H (.v x) v):v=x:=by cases h;rfl
def C1.plain {α:Type}(g:α->Value)(hi:∀ x y,g x=g y->x=y):C1 α:=⟨fun x=>.v (g x),fun x y h=>hi x y (by injection h),fun Z Z' H x y v a b=>hi x y ((qLF a).symm.trans (qLF b))⟩
def C1.int (k:IntKind):C1 Int:=.plain (fun z=>.int k z) fun x y h=>by injection h
theorem FRL.zFD {x:FV}(h:FRL Z H (x::xs) ws):∃ v vs,ws=v::vs∧FR Z H x v∧FRL Z H xs vs:=by
 cases ws with
 | nil=>have:=h.len;simp at this
 | cons v vs=>exact⟨v,vs,rfl,h.val 0 x v rfl rfl,by have:=h.len;simpa using this,fun i y u h1 h2=>h.val (i+1) y u (by simpa using h1) (by simpa using h2)⟩
theorem FRL.split {ys:List FV}(h:FRL Z H (xs++ys) ws):FRL Z H xs (ws.take xs.length)∧FRL Z H ys (ws.drop xs.length):=by
 have hl:=h.len;rw[zNK] at hl;refine⟨⟨by simp;omega,fun i x v h1 h2=>?_⟩,⟨by simp;omega,fun i x v h1 h2=>?_⟩⟩
 ·have hi:=(zM6.1 h1).1;rw[zOO,if_pos hi] at h2;exact h.val i x v (by rw[zON hi];exact h1) h2
 ·rw[zOQ] at h2;exact h.val (xs.length+i) x v (by rw[zOL (by omega)];simpa using h1) h2
theorem qQU {α:Type}(c:C1 α){Z':Nat->Prop}:∀ (xs ys:List α) (vs:List Value),FRL Z H (xs.map c.f) vs->FRL Z' H (ys.map c.f) vs->xs=ys
 | [],[],_,_,_=>rfl
 | [],y::ys,vs,a,b=>by have h1:=a.len;have h2:=b.len;simp at h1 h2;omega
 | x::xs,[],vs,a,b=>by have h1:=a.len;have h2:=b.len;simp at h1 h2;omega
 | x::xs,y::ys,vs,a,b=>by
   obtain⟨v,vs',rfl,a1,a2⟩:=a.zFD;obtain⟨v',vs2,e,b1,b2⟩:=b.zFD;simp only[zNW] at e;obtain⟨rfl,rfl⟩:=e;rw[c.uniq _ _ H x y _ a1 b1,qQU c xs ys _ a2 b2]
theorem map_inj {α:Type}(c:C1 α):∀ (xs ys:List α),xs.map c.f=ys.map c.f->xs=ys
 | [],[],_=>rfl
 | [],y::ys,h=>by cases h
 | x::xs,[],h=>by cases h
 | x::xs,y::ys,h=>by
   simp only[zNH,zNW] at h;rw[c.inj x y h.1,map_inj c xs ys h.2]
theorem mZ {el n n':Nat}{cs cs':List FV}{Z':Nat->Prop}(a:FR Z H (.l el n cs) v)(b:FR Z' H (.l el n' cs') v):n=n'∧∃ vs vs',FRL Z H cs vs∧FRL Z' H cs' vs'∧(cs.length=cs'.length->vs=vs'):=by
 cases a with
 | nil h0 hs =>
   cases b with
   | nil=>exact⟨rfl,[],[],⟨rfl,fun i x v h=>by simp at h⟩,⟨rfl,fun i x v h=>by simp at h⟩,fun _=>rfl⟩
   | l hz hb hn hs' hl hc=>exact⟨rfl,[],_,⟨rfl,fun i x v h=>by simp at h⟩,⟨(xX hl).symm,hc⟩,fun e=>by
      have:=xX hl;rw[<-e] at this
      exact (zN7.1 this).symm⟩
 | l hz hb hn hs hl hc =>
   cases b with
   | nil=>exact⟨rfl,_,[],⟨(xX hl).symm,hc⟩,⟨rfl,fun i x v h=>by simp at h⟩,fun e=>by
      have:=xX hl;rw[e] at this
      exact zN7.1 this⟩
   | l hz' hb' hn' hs' hl' hc'=>exact⟨rfl,_,_,⟨(xX hl).symm,hc⟩,⟨(xX hl').symm,hc'⟩,fun e=>by
      rw[e] at hl;rw[hl] at hl'
      exact zN0 hl'⟩
def C1.list {α:Type}(el:TypeId)(c:C1 α):C1 (List α):=⟨fun xs=>.l el xs.length (xs.map c.f),fun xs ys h=>map_inj c xs ys (by injection h),fun Z Z' H xs ys v a b=>by
 obtain⟨h1,vs,vs',h2,h3,h4⟩:=mZ a b;have:=h4 (by simp[h1]);subst this
 exact qQU c xs ys _ h2 h3⟩
theorem zA6:∀ (l m:List FV),l.map PV.f=m.map PV.f->l=m
 | [],[],_=>rfl
 | [],y::m,h=>by cases h
 | x::l,[],h=>by cases h
 | x::l,y::m,h=>by
   simp only[zNH,zNW,PV.f.injEq] at h;rw[h.1,zA6 l m h.2]
theorem qBR {vs:List Value}(h:VRL P Z H M (xs.map .f) vs):FRL Z H xs vs:=⟨by simpa using h.len,fun i x v h1 h2=>by
 have:=h.val i (.f x) v (by simp[h1]) h2
 cases this with
 | f h=>exact h⟩
section
variable {ds:List (Option Tmp)}{o:Oper}{l:List Oper}{env:List PV}{ph:PHp}
noncomputable def qQ7 (P:Program)(tab:uQ)(inl:FuncId->Bool)(nm:Nm)(ds:List (Option Tmp))(o:Oper)(l:List Oper)(env:List PV)(ph:PHp):PE->PT
 | .fail=>.fail
 | .ok v ph'=>q8I (needs o.op) (qH nm o.dst) nm env ph (pops P tab inl nm ds l (yL env o.dst v) ph')
 | .call g args ph'=>.call (qUM nm (qLD nm g env ph')) g args ph' fun v ph2=>.chk (clean (qUM nm (qLD nm g env ph')).p env ph2) (pops P tab inl nm ds l (yL env o.dst v) ph2)
 | .rnd x args ph'=>.rnd x args ph' fun v ph2=>pops P tab inl nm ds l (yL env o.dst v) ph2
noncomputable def pgo (P:Program)(tab:uQ)(inl:FuncId->Bool)(nm:Nm)(ds:List (Option Tmp))(o:Oper)(l:List Oper)(env:List PV)(ph:PHp)(c:Option Bool):PT :=
 vB c (qQ7 P tab inl nm ds o l env ph (bF P tab inl (qH nm o.dst) o env ph)) (pops P tab inl nm ds l (yL env o.dst (.tup [])) ph) .fail
theorem qYL:pops P tab inl nm ds (o::l) env ph=pgo P tab inl nm ds o l env ph (j5 ds o env):=by
 unfold pops pgo qQ7;cases bF P tab inl (qH nm o.dst) o env ph <;> rfl
theorem qY7:pgo P tab inl nm ds o l env ph (some true)=qQ7 P tab inl nm ds o l env ph (bF P tab inl (qH nm o.dst) o env ph):=Eq.trans rfl rfl
theorem qVB:pgo P tab inl nm ds o l env ph (some false)=pops P tab inl nm ds l (yL env o.dst (.tup [])) ph:=Eq.trans rfl rfl
theorem qQJ {v:PV}:qQ7 P tab inl nm ds o l env ph (.ok v ph')=q8I (needs o.op) (qH nm o.dst) nm env ph (pops P tab inl nm ds l (yL env o.dst v) ph'):=Eq.trans rfl rfl
theorem qQ8 {g:FuncId}:qQ7 P tab inl nm ds o l env ph (.call g args ph')=.call (qUM nm (qLD nm g env ph')) g args ph' fun v ph2=>.chk (clean (qUM nm (qLD nm g env ph')).p env ph2) (pops P tab inl nm ds l (yL env o.dst v) ph2):=Eq.trans rfl rfl
theorem qX9 {x:Nat}:qQ7 P tab inl nm ds o l env ph (.rnd x args ph')=.rnd x args ph' fun v ph2=>pops P tab inl nm ds l (yL env o.dst v) ph2:=Eq.trans rfl rfl
noncomputable def qQI (w:Bool):Option PV->Option Bool
 | some v=>qPR w v
 | none=>none
theorem qMJ {t:Tmp}:qPU w env (some t)=qQI w (zJ env t):=by
 show (match zJ env t with | some v=>qPR w v | none=>none)=qQI w (zJ env t);cases zJ env t <;> rfl
theorem qBS {b:Bool}:qQI w (some (fvv (.bool b)))=some (b==w):=rfl
theorem qRD:qQI w (some (.tup []))=some false:=rfl
theorem aA (n:Nat):Nat.beq n n=true:=by simp
end
section
variable {t t2:TypeId}{k:IntKind}{a b:Int}{ph:PHp}
theorem aO {op:BinOp}(h:dS op k a b=some v)(hv:ofC v=fvv v):jP P op t t2 (fvv (.int k a)) (fvv (.int k b)) ph=some (fvv v):=by
 rw[<-hv];unfold jP;simp only[fvv,pl,q8U,cond_false];rw[q48 h];rfl
theorem q9U:jP P .lss t t2 (fvv (.int k a)) (fvv (.int k b)) ph=some (fvv (.bool (decide (a < b)))):=aO rfl rfl
theorem q91:jP P .leq t t2 (fvv (.int k a)) (fvv (.int k b)) ph=some (fvv (.bool (decide (a<=b)))):=aO rfl rfl
theorem zAZ:jP P .gtr t t2 (fvv (.int k a)) (fvv (.int k b)) ph=some (fvv (.bool (decide (b < a)))):=aO rfl rfl
theorem zBO:jP P .geq t t2 (fvv (.int k a)) (fvv (.int k b)) ph=some (fvv (.bool (decide (b<=a)))):=aO rfl rfl
theorem q9V:jP P .eql t t2 (fvv (.int k a)) (fvv (.int k b)) ph=some (fvv (.bool (a==b))):=aO rfl rfl
theorem q98:jP P .neq t t2 (fvv (.int k a)) (fvv (.int k b)) ph=some (fvv (.bool (a != b))):=aO rfl rfl
theorem q89:jP P .add t t2 (fvv (.int k a)) (fvv (.int k b)) ph=some (fvv (.int k (k.wrap (a+b)))):=aO rfl rfl
theorem zAA:jP P .sub t t2 (fvv (.int k a)) (fvv (.int k b)) ph=some (fvv (.int k (k.wrap (a - b)))):=aO rfl rfl
theorem zBQ:jP P .mul t t2 (fvv (.int k a)) (fvv (.int k b)) ph=some (fvv (.int k (k.wrap (a*b)))):=aO rfl rfl
def zCL (k:IntKind)(a b:Int):Option Int:=if b=0 then none else some (k.wrap (a.tdiv b))
def zCJ (a b:Int):Option Int:=if b=0 then none else some (a.tmod b)
theorem zA5 (h:zCL k a b=some c):jP P .quo t t2 (fvv (.int k a)) (fvv (.int k b)) ph=some (fvv (.int k c)):=by
 unfold zCL at h;split at h
 ·cases h
 ·rename_i hb;cases h;exact aO (v:=.int k (k.wrap (a.tdiv b))) (by unfold dS;simp only[if_neg hb]) rfl
theorem q9O (h:zCJ a b=some c):jP P .rem t t2 (fvv (.int k a)) (fvv (.int k b)) ph=some (fvv (.int k c)):=by
 unfold zCJ at h;split at h
 ·cases h
 ·rename_i hb;cases h;exact aO (v:=.int k (a.tmod b)) (by unfold dS;simp only[if_neg hb]) rfl
theorem zAM {x:Bool}:aY P (fun a=>.unOp .not t a) (fvv (.bool x))=some (fvv (.bool !x)):=rfl
end
end Go.Idl
namespace Go.Idl
variable [Gc]
variable {P:Program}{G:Nat->Bool}{nat:xA}{tab:uQ}{nm:Nm}
def dl1:PV->List Nat
 | .own k _ _ _=>[k]
 | .ref k _ _=>[k]
 | .mp k=>[k]
 | .asl _ k _=>[k]
 | _=>[]
noncomputable def dlO (o:Oper)(env:List PV):List Nat:=o.op.operands.toList.flatMap fun x=>dl1 (qJ env x)
theorem pV {o:Oper}{env:List PV}{x:Operand}{k:Nat}(hx:x∈o.op.operands)(hk:k∈dl1 (qJ env x)):k∈dlO o env:=List.mem_flatMap.2 ⟨x,zN9.1 hx,hk⟩
theorem qCN {env env':List PV}{ps:List (Nat×Operand)}(h:∀ x∈ps.map (·.2),qJ env x=qJ env' x):(ps.map fun p=>(p.1,qJ env p.2))=ps.map fun p=>(p.1,qJ env' p.2) :=
 zOK fun p hp=>by rw[h p.2 (zNO.2 ⟨p,hp,rfl⟩)]
theorem qR9 (P:Program){env env':List PV}{x:Operand}(h:qJ env x=qJ env' x)(ha:(pl (qJ env x)).isSome=true):(qRO env).val x=(qRO env').val x:=by
 obtain⟨a,ha⟩:=zN2.1 ha;rw[bX P ha,bX P (h ▸ ha)]
theorem qLE {b:Builtin}{args:Array Operand}{ts:Array TypeId}{env env':List PV}{ty:TypeId}{ph:PHp}(h:∀ x∈args,qJ env x=qJ env' x) :
 vR P b ⟨.builtin b,args,ts⟩ (args.toList.map (qJ env)) env ty ph=vR P b ⟨.builtin b,args,ts⟩ (args.toList.map (qJ env')) env' ty ph:=by
 have e:args.toList.map (qJ env)=args.toList.map (qJ env'):=zOK fun x hx=>h x (zN9.2 hx)
 unfold vR;rw[<-e]
 cases hp:plL (args.toList.map (qJ env)) with
 | none=>rfl
 | some vs =>
   simp only
   have:kG P (cop (.call ⟨.builtin b,args,ts⟩) ty) (qRO env) H00=kG P (cop (.call ⟨.builtin b,args,ts⟩) ty) (qRO env') H00:=by
    refine o5 (fun cs b h=>by cases h) fun x hx=>?_
    have hx':x∈args:=by simpa [Op.operands,Call.operands,cop] using hx
    obtain⟨a,ha⟩:=qF3 hp (qJ env x) (zNO.2 ⟨x,by simpa using hx',rfl⟩);exact qR9 P (h x hx') (by rw[ha];rfl)
   rw[this]
theorem qSM {o:Oper}{env env':List PV}{k:Nat}{ph:PHp}(h:∀ x∈o.op.operands,qJ env x=qJ env' x):sS P o env k ph=sS P o env' k ph:=by
 obtain⟨d,op,ty,pos,aft,g⟩:=o;cases op <;> simp only[Op.operands] at h <;> simp only[sS]
 case move x=>rw[h x (by simp)]
 case assign x=>rw[h x (by simp)]
 case pick c a b=>rw[h c (by simp),h a (by simp),h b (by simp)]
 case box el x=>rw[h x (by simp)]
 case build t ps=>rw[qCN fun x hx=>h x (by simpa using hx)]
 case buildSlice t n ps=>rw[qCN fun x hx=>h x (by simpa using hx)]
 case load t a=>rw[h a (by simp)]
 case store t a x=>rw[h a (by simp),h x (by simp)]
 case nilCheck x=>rw[h x (by simp)]
 case binOp op t x y t2=>rw[h x (by simp),h y (by simp)]
 case unOp op t x=>rw[h x (by simp)]
 case convert s t x=>rw[h x (by simp)]
 case makeFunc fn first cap =>
  rw[zOK (l:=first.toList) fun x hx=>h x (zPC.2 (.inl (zN9.2 hx))),zOK (l:=cap.toList) fun x hx=>h x (zPC.2 (.inr (zN9.2 hx)))]
 case makeSlice t l c=>rw[h l (by simp),h c (by simp)]
 case slice t x lo hi mx =>
  cases mx with
  | some m=>rfl
  | none =>
    have e1:lo.map (qJ env)=lo.map (qJ env'):=by cases lo <;> simp_all
    have e2:hi.map (qJ env)=hi.map (qJ env'):=by cases hi <;> simp_all
    have e3:(lo.toList++hi.toList).map (qJ env)=(lo.toList++hi.toList).map (qJ env'):=by cases lo <;> cases hi <;> simp_all
    have e4:lo.map (fun a=>Operand.const ((pl (qJ env a)).getD undef))=lo.map fun a=>Operand.const ((pl (qJ env' a)).getD undef):=by cases lo <;> simp_all
    have e5:hi.map (fun a=>Operand.const ((pl (qJ env a)).getD undef))=hi.map fun a=>Operand.const ((pl (qJ env' a)).getD undef):=by cases hi <;> simp_all
    simp only[h x (by simp),e1,e2,e3,e4,e5]
 case fieldAddr t x i=>rw[h x (by simp)]
 case indexAddr t x ix=>rw[h x (by simp),h ix (by simp)]
 case index t x ix=>rw[h x (by simp),h ix (by simp)]
 case extract t i=>rw[h t (by simp)]
 case makeMap t r=>cases r <;> rfl
 case lookup t x kx ok=>rw[h x (by simp),h kx (by simp)]
 case mapUpdate t m kx x=>rw[h m (by simp),h kx (by simp),h x (by simp)]
 case range t x=>rw[h x (by simp)]
 case next it b =>
  cases b with
  | false=>rfl
  | true=>simp only[h it (by simp)]
 case call c =>
  obtain⟨cal,args,ts⟩:=c;simp only[Call.operands] at h;have ha:∀ x∈args,qJ env x=qJ env' x:=fun x hx=>h x (by cases cal <;> simp[hx])
  have e:args.toList.map (qJ env)=args.toList.map (qJ env'):=zOK fun x hx=>ha x (zN9.2 hx)
  cases cal with
  | builtin b =>
    have hD:=qLE (P:=P) (b:=b) (ts:=ts) (ty:=ty) (ph:=ph) ha;simp only[wS]
    cases b <;> simp only[e] at hD ⊢ <;> first | rfl | exact hD | skip
    rw[<-e] at hD;rw[<-e]
    cases hl:args.toList.map (qJ env) with
    | nil=>rfl
    | cons x l =>
      cases l with
      | nil =>
        simp only;rw[hl] at hD;rw[hD]
      | cons=>rfl
  | invoke r n=>rfl
  | value f=>rfl
theorem yG {l k:Nat}{ob:PO}{ph:PHp}(h:l≠k):qA l ((k,ob)::ph)=qA l ph:=by
 have:(l==k)=false:=by simpa using h
 show cond (l==k) (some ob) (qA l ph)=_;rw[this];rfl
theorem rW {k:Nat}{ob:PO}{v y:PV}{ph ph':PHp}(h:qCP k ob v ph=some (y,ph')){l:Nat}(hl:l≠k):qA l ph'=qA l ph:=by
 obtain⟨_,rfl⟩:=vT h;exact yG hl
theorem q5V {m:PV}{ph:PHp}{k:Nat}{r:PO×Nat×List MapEntry}(h:rO P m ph=some (k,r)):m=.mp k:=by
 unfold rO at h;split at h
 ·split at h
  ·rename_i ob _
   cases hc:(spec P ob.el&&Nat.beq ob.el 1000000001) with
   | false=>rw[hc] at h;cases h
   | true =>
     rw[hc] at h;simp only[cond_true] at h;split at h
     ·cases h;rfl
     ·cases h
  ·cases h
 ·cases h
theorem qUU {k l:Nat}{ob:PO}{ph:PHp}(h:l≠k):qA l (xL k ob ph)=qA l ph:=by rw[zA,if_neg (fun e=>h e.1)]
theorem qJC {t:TypeId}{m kx x:PV}{ph ph':PHp}(h:jE P t m kx x ph=some ph'){l:Nat}(hl:l ∉ dl1 m):qA l ph'=qA l ph:=by
 unfold jE at h;split at h
 case h_2=>cases h
 rename_i kt et k ob c es kv xv hu hm hkv hxv;have e:=q5V hm;subst e;have hne:l≠k:=fun e=>hl (by rw[e];simp[dl1])
 cases hc:zI xv with
 | false=>rw[hc] at h;cases h
 | true =>
   rw[hc] at h;simp only[cond_true] at h;split at h
   ·split at h
    ·rename_i e _
     cases hs:Instr.sameBits 10000 e.key kv with
     | false=>rw[hs] at h;cases h
     | true=>rw[hs] at h;cases h;exact qUU hne
    ·cases h
   ·cases h;exact qUU hne
   ·cases h
theorem q5Z {x y:PV}{ph ph':PHp}(h:qKW P x ph=some (y,ph')){l:Nat}(hl:l ∉ dl1 x):qA l ph'=qA l ph:=by
 unfold qKW at h;split at h
 case h_2=>cases h
 rename_i k tt off;have hne:l≠k:=fun e=>hl (by rw[e];simp[dl1])
 split at h
 case h_2=>cases h
 rename_i ob _
 cases hc:(spec P ob.el&&(Nat.beq ob.el 1000000000&&(Nat.beq tt 2&&Nat.beq off 0))) with
 | false=>rw[hc] at h;cases h
 | true =>
   rw[hc] at h;simp only[cond_true] at h;split at h
   case h_2=>cases h
   rename_i s pos _
   cases hs:decide (pos.toNat < s.size) with
   | false=>rw[hs] at h;cases h;rfl
   | true=>rw[hs] at h;cases h;exact qUU hne
theorem zAW {o:Oper}{env:List PV}{k:Nat}{ph ph':PHp}{v:PV}(h:sS P o env k ph=some (v,ph')){l:Nat}(hk:l≠k)(hd:l ∉ dlO o env):qA l ph'=qA l ph:=by
 obtain⟨d,op,ty,pos,aft,g⟩:=o;have one:∀ {r:Option PV},pp1 ph r=some (v,ph')->qA l ph'=qA l ph:=fun h=>by rw[(zY h).2]
 have nin:∀ x∈op.operands,l ∉ dl1 (qJ env x):=fun x hx hl=>hd (pV (o:=⟨d,op,ty,pos,aft,g⟩) hx hl)
 cases op <;> simp only[sS] at h <;> (try (cases h;done)) <;> (try (exact one h))
 case move=>cases h;rfl
 case assign=>cases h;rfl
 case pick=>split at h <;> cases h;rfl
 case alloc el =>
  unfold dQ at h;split at h
  ·exact rW (gH h).2 hk
  ·cases h
 case box el x =>
  unfold q2P at h
  cases hc:(!(spec P el)&&(pnt (qJ env x)&&(zC (qJ env x)).all fZ)) with
  | true=>rw[hc] at h;exact rW h hk
  | false=>rw[hc] at h;cases h
 case buildSlice t n ps =>
  unfold z8 at h;split at h
  ·split at h
   ·rename_i s z _ _
    cases hc:(Nat.beq z.length (s+1)&&Nat.ble (n*(s+1)) 65536) with
    | true =>
      rw[hc] at h;simp only[cond_true] at h;split at h
      ·exact rW h hk
      ·cases h
    | false=>rw[hc] at h;cases h
   ·cases h
  ·cases h
 case store t a x =>
  unfold ppS at h;split at h
  ·rename_i ph1 hs;cases h;unfold jB at hs;split at hs
   ·rename_i k' tt off ha;have hne:l≠k':=fun e=>nin a (by simp[Op.operands]) (by rw[ha,e];simp[dl1])
    split at hs
    ·split at hs
     ·rename_i ob _ _ n _
      replace hs:=(gH hs).2
      cases hc:(Nat.beq tt ob.cs.length&&(Nat.beq n (zC (qJ env x)).length&&(Nat.ble (off+n) ob.cs.length&&(pnt (qJ env x)&&(zC (qJ env x)).all fZ)))) with
      | true=>rw[hc] at hs;cases hs;rw[zA,if_neg (fun h=>hne h.1)]
      | false=>rw[hc] at hs;cases hs
     ·cases hs
    ·cases hs
   ·cases hs
  ·cases h
 case convert s t x =>
  cases hc:qSB (qJ env x) with
  | true=>rw[hc] at h;cases h
  | false=>rw[hc] at h;exact one h
 case makeSlice t a b =>
  unfold y8 at h;split at h
  ·rename_i el k1 n1 k2 m1 _ _ _
   cases hc:decide (n1=m1) with
   | false=>rw[hc] at h;cases h
   | true =>
     rw[hc] at h;simp only[cond_true] at h;split at h
     ·rename_i n s z _ _ _
      cases hc:(kK P el&&Nat.beq z.length (s+1)) with
      | true=>rw[hc] at h;exact rW h hk
      | false=>rw[hc] at h;cases h
     ·cases h
  ·cases h
 case slice t x lo hi mx =>
  cases mx with
  | some=>cases h
  | none =>
    simp only at h;split at h
    ·split at h
     ·exact one h
     ·cases h
    ·exact one h
 case index=>split at h <;> exact one h
 case makeMap t r =>
  cases r with
  | some _=>cases h
  | none =>
    unfold dH at h
    cases hc:spec P 1000000001 with
    | false=>rw[hc] at h;cases h
    | true=>rw[hc] at h;exact rW h hk
 case mapUpdate t m kx x =>
  unfold ppS at h;split at h
  ·rename_i ph1 hs;cases h;exact qJC hs (nin m (by simp[Op.operands]))
  ·cases h
 case range t x =>
  unfold rR at h;split at h
  ·rename_i s _ _
   cases hc:spec P 1000000000 with
   | false=>rw[hc] at h;cases h
   | true=>rw[hc] at h;exact rW h hk
  ·split at h
   ·rename_i j ob c es hm
    cases hc:(spec P 1000000002&&!(j==k)) with
    | false=>rw[hc] at h;cases h
    | true=>rw[hc] at h;exact rW h hk
   ·cases h
  ·cases h
 case next it b =>
  cases b with
  | false=>cases h
  | true=>exact q5Z h (nin it (by simp[Op.operands]))
 case call c =>
  obtain⟨cal,args,ts⟩:=c;split at h
  ·rename_i b hb;simp only at hb;subst hb
   have dry:vR P b ⟨.builtin b,args,ts⟩ (args.toList.map (qJ env)) env ty ph=some (v,ph')->qA l ph'=qA l ph:=fun h=>by
    unfold vR at h;split at h
    ·exact one h
    ·cases h
   have mem:∀ x,x∈args.toList.map (qJ env)->l ∉ dl1 x:=fun x hx=>by
    obtain⟨a,ha,rfl⟩:=zNO.1 hx;exact nin a (by simpa [Op.operands,Call.operands] using ha)
   unfold wS at h;split at h
   ·split at h
    ·rename_i x y hxy;have hx:l ∉ dl1 x:=mem x (by rw[hxy];simp);unfold zW at h
     have grow:∀ {el s:Nat} {old:List PV} {n:Nat} {new:List PV} {mm kk:Nat} {php:PHp},oG P el s old n new mm kk php=some (v,ph')->l≠kk->qA l ph'=qA l php:=fun hg hkk=>by
      unfold oG at hg;rename_i el s old n new mm kk php
      cases hc:(Nat.ble (n+mm) 1048576&&(kK P el&&(Nat.beq (old.length) (n*s)&&(Nat.beq new.length (mm*s)&&new.all fZ)))) with
      | true=>rw[hc] at hg;exact rW hg hkk
      | false=>rw[hc] at hg;cases hg
     split at h
     ·split at h
      ·split at h
       ·split at h
        ·rename_i el _ _ _ _ s _ _ mm new _;split at h
         ·cases h0:Nat.beq mm 0 with
          | true=>rw[h0] at h;cases h;rfl
          | false=>rw[h0] at h;exact grow h hk
         ·rename_i j tt o n;have hj:l≠j:=fun e=>hx (by rw[e];simp[dl1])
          split at h
          ·rename_i ob hl
           cases hc:(Nat.beq ob.el el&&(Nat.beq (tt*(s+1)) ob.cs.length&&Nat.beq o 0)) with
           | false=>rw[hc] at h;cases h
           | true =>
             rw[hc] at h;simp only[cond_true] at h
             cases h0:Nat.beq mm 0 with
             | true=>rw[h0] at h;cases h;rfl
             | false =>
               rw[h0] at h;simp only[cond_false] at h
               cases hr:Nat.ble (n+mm) tt with
               | true =>
                 rw[hr] at h;simp only[cond_true] at h
                 cases hc2:(Nat.beq new.length (mm*(s+1))&&new.all fZ) with
                 | true=>rw[hc2] at h;cases h;rw[zA,if_neg (fun h=>hj h.1)]
                 | false=>rw[hc2] at h;cases h
               | false =>
                 rw[hr] at h;simp only[cond_false] at h
                 cases hn:Nat.beq n tt with
                 | false=>rw[hn] at h;cases h
                 | true =>
                   rw[hn] at h;simp only[cond_true] at h
                   cases hg:ob.gr with
                   | true=>rw[hg] at h;rw[grow h hj,yZ,if_neg hj]
                   | false=>rw[hg] at h;exact grow h hk
          ·cases h
         ·cases h
        ·cases h
       ·cases h
      ·cases h
     ·cases h
    ·cases h
   ·split at h
    ·rename_i x y hxy;have hx:l ∉ dl1 x:=mem x (by rw[hxy];simp);unfold qFP at h;split at h
     ·split at h
      ·split at h
       ·split at h
        ·rename_i el _ _ _ _ s _ _ mm new _;split at h
         ·rename_i j tt o n;have hj:l≠j:=fun e=>hx (by rw[e];simp[dl1])
          split at h
          ·rename_i ob hl
           cases hc:(Nat.beq ob.el el&&(Nat.beq (tt*(s+1)) ob.cs.length&&(Nat.beq new.length (mm*(s+1))&&new.all fZ))) with
           | false=>rw[hc] at h;cases h
           | true=>rw[hc] at h;cases h;rw[zA,if_neg (fun h=>hj h.1)]
          ·cases h
         ·cases h;rfl
         ·cases h;rfl
         ·cases h
        ·cases h
       ·cases h
      ·cases h
     ·cases h
    ·cases h
   ·split at h
    ·cases hc:qYX P ts with
     | true=>rw[hc] at h;exact dry h
     | false=>rw[hc] at h;exact one h
    ·cases h
   ·exact dry h
   ·exact dry h
   ·cases h
  ·cases h
theorem q8E {t:TypeId}{a x:PV}{ph ph':PHp}(h:fH P t a ph=some x)(hd:∀ l∈dl1 a,qA l ph'=qA l ph):fH P t a ph'=some x:=by
 cases a <;> first | exact h | skip
 rename_i k tt off;have:=hd k (by simp[dl1]);unfold fH at h ⊢;simp only[this];exact h
theorem qTN {k tt:Nat}{ph ph':PHp}(h:qA k ph'=qA k ph):live? k tt ph'=live? k tt ph:=by unfold live?;rw[h]
theorem qMZ {a x:PV}{ph ph':PHp}(h:yO a ph=some x)(hd:∀ l∈dl1 a,qA l ph'=qA l ph):yO a ph'=some x:=by
 unfold yO at h ⊢;split at h
 ·rename_i k tt off;rw[qTN (tt:=tt) (hd k (by simp[dl1]))];exact h
 ·exact h
 ·exact h
 ·exact h
 ·cases h
theorem qZK {t:TypeId}{a x:PV}{lo hi:Option PV}{ph ph':PHp}(h:wP P t a lo hi ph=some x)(hd:∀ l∈dl1 a,qA l ph'=qA l ph):wP P t a lo hi ph'=some x:=by
 unfold wP at h ⊢;split at h
 ·exact h
 ·exact h
 ·rename_i k tt o n;rw[hd k (by simp[dl1])];exact h
 ·rename_i k tt;rw[hd k (by simp[dl1])];exact h
 ·cases h
theorem qKM {t:TypeId}{a x:PV}{i:Nat}{ph ph':PHp}(h:zX P t a i ph=some x)(hd:∀ l∈dl1 a,qA l ph'=qA l ph):zX P t a i ph'=some x:=by
 cases a <;> first | exact h | skip
 rename_i k tt off;have:=qTN (tt:=tt) (hd k (by simp[dl1]));unfold zX at h ⊢;simp only[this];exact h
theorem qJ8 {t:TypeId}{a ix x:PV}{ph ph':PHp}(h:qZ P t a ix ph=some x)(hd:∀ l∈dl1 a,qA l ph'=qA l ph):qZ P t a ix ph'=some x:=by
 unfold qZ at h ⊢;split at h
 ·split at h
  ·exact h
  ·rename_i k tt o n;rw[hd k (by simp[dl1])];exact h
  ·rename_i k tt off;rw[qTN (tt:=tt) (hd k (by simp[dl1]))];exact h
  ·exact h
  ·cases h
 ·cases h
theorem zAG {ts:Array TypeId}{a x:PV}{ph ph':PHp}(h:q1H P ts a ph=some x)(hd:∀ l∈dl1 a,qA l ph'=qA l ph):q1H P ts a ph'=some x:=by
 unfold q1H at h ⊢;split at h
 ·split at h
  ·split at h
   ·exact h
   ·exact h
   ·rename_i k tt o n;rw[hd k (by simp[dl1])];exact h
   ·cases h
  ·exact h
 ·cases h
theorem q6R {ts:Array TypeId}{a x:PV}{ph ph':PHp}(h:qC3 P ts a ph=some x)(hd:∀ l∈dl1 a,qA l ph'=qA l ph):qC3 P ts a ph'=some x:=by
 have e:rT P a ph'=rT P a ph:=by
  cases a <;> first | rfl | skip
  rename_i k;unfold rT;simp only[hd k (by simp[dl1])]
 unfold qC3 at h ⊢;rw[e];split at h
 ·exact h
 ·exact zAG h hd
theorem qVY {t:TypeId}{m kx x:PV}{ok:Bool}{ph ph':PHp}(h:uL P t m kx ok ph=some x)(hd:∀ l∈dl1 m,qA l ph'=qA l ph):uL P t m kx ok ph'=some x:=by
 have e:rO P m ph'=rO P m ph:=by
  cases m <;> first | rfl | skip
  rename_i k;unfold rO;simp only[hd k (by simp[dl1])]
 unfold uL at h ⊢;rw[e];exact h
theorem q40 {a:PV}{b:Bool}{ph ph':PHp}(h:isNil (P:=P) a ph=some b)(hd:∀ l∈dl1 a,qA l ph'=qA l ph):isNil (P:=P) a ph'=some b:=by
 unfold isNil at h ⊢;split at h
 ·exact h
 ·exact h
 ·rename_i k tt o n;rw[hd k (by simp[dl1])];exact h
 ·cases h
theorem q9E {t:TypeId}{a b:PV}{r:Bool}{ph ph':PHp}(h:qEB P t a b ph=some r)(hd:∀ l∈dl1 a,qA l ph'=qA l ph):qEB P t a b ph'=some r:=by
 unfold qEB at h ⊢;split at h
 ·cases hc:(zR P t).isSome with
  | true=>rw[hc] at h;exact q40 h hd
  | false=>rw[hc] at h;cases h
 ·exact h
 ·cases h
theorem qT7 {t:TypeId}{a b x:PV}{ph ph':PHp}{f:Bool->PV}(h:uN P t a b ph f=some x)(hd:∀ l∈dl1 a,qA l ph'=qA l ph):uN P t a b ph' f=some x:=by
 unfold uN at h ⊢;split at h
 ·rename_i r h1;rw[q9E h1 hd];exact h
 ·have:qEB P t a b ph'=none:=by
   unfold qQ1 at h;split at h
   ·rename_i el n c;unfold qEB
    cases hc:(zR P t).isSome with
    | false=>rw[hc] at h;cases h
    | true=>rfl
   ·cases h
  rw[this];exact h
theorem q93 {op:BinOp}{t t2:TypeId}{a b x:PV}{ph ph':PHp}(h:jP P op t t2 a b ph=some x)(hd:∀ l∈dl1 a,qA l ph'=qA l ph):jP P op t t2 a b ph'=some x:=by
 unfold jP at h ⊢;split at h
 ·exact h
 ·split at h
  ·exact qT7 h hd
  ·exact qT7 h hd
  ·cases h
theorem zA2 {o:Oper}{env:List PV}{k:Nat}{ph ph1:PHp}{v:PV}(hf:yR o=false)(ha:qL o=false)(h:sS P o env k ph=some (v,ph1)) :
 ph1=ph∧∀ (k':Nat) (ph':PHp),(∀ l∈dlO o env,qA l ph'=qA l ph)->sS P o env k' ph'=some (v,ph'):=by
 obtain⟨d,op,ty,pos,aft,g⟩:=o;have mem:∀ {x:Operand} {ph':PHp},x∈op.operands->(∀ l∈dlO ⟨d,op,ty,pos,aft,g⟩ env,qA l ph'=qA l ph)->∀ l∈dl1 (qJ env x),qA l ph'=qA l ph:=fun hx hd l hl=>hd l (pV (o:=⟨d,op,ty,pos,aft,g⟩) hx hl)
 have one:∀ {f:PHp->Option PV},pp1 ph (f ph)=some (v,ph1)->(∀ {x ph'},(∀ l∈dlO ⟨d,op,ty,pos,aft,g⟩ env,qA l ph'=qA l ph)->f ph=some x->f ph'=some x)->ph1=ph∧∀ (k':Nat) (ph':PHp),(∀ l∈dlO ⟨d,op,ty,pos,aft,g⟩ env,qA l ph'=qA l ph)->pp1 ph' (f ph')=some (v,ph'):=fun h hk=>by
  obtain⟨h1,h2⟩:=zY h;exact⟨h2,fun k' ph' hd=>by rw[hk hd h1];rfl⟩
 have hne:xI ⟨d,op,ty,pos,aft,g⟩=.pure∨xI ⟨d,op,ty,pos,aft,g⟩=.read:=qGD hf ha
 cases op <;> simp only[sS] at h ⊢ <;> (try (cases h;done))
 case move=>cases h;exact⟨rfl,fun _ _ _=>rfl⟩
 case assign=>cases h;exact⟨rfl,fun _ _ _=>rfl⟩
 case pick c a b =>
  split at h
  ·rename_i t ht;cases h;refine⟨rfl,fun _ _ _=>?_⟩;simp only[ht]
  ·cases h
 case alloc=>simp only[xI] at hne;split at hne <;> (rcases hne with h | h <;> cases h)
 case box=>rcases hne with h | h <;> cases h
 case buildSlice=>rcases hne with h | h <;> cases h
 case store=>rcases hne with h | h <;> cases h
 case makeSlice=>rcases hne with h | h <;> cases h
 case build t ps =>
  obtain⟨h1,h2⟩:=zY h;exact⟨h2,fun k' ph' hd=>by rw[h1];rfl⟩
 case load t a=>exact one (f:=fun q=>fH P t (qJ env a) q) h fun hd h=>q8E h (mem (by simp[Op.operands]) hd)
 case nilCheck x=>exact one (f:=fun q=>yO (qJ env x) q) h fun hd h=>qMZ h (mem (by simp[Op.operands]) hd)
 case binOp op t x y t2=>exact one (f:=fun q=>jP P op t t2 (qJ env x) (qJ env y) q) h fun hd h=>q93 h (mem (by simp[Op.operands]) hd)
 case unOp op t x=>exact one (f:=fun _=>aY P (fun a=>.unOp op t a) (qJ env x)) h fun _ h=>h
 case convert s t x =>
  cases hc:qSB (qJ env x) with
  | true=>rw[hc] at h;cases h
  | false =>
    rw[hc] at h;simp only[cond_false] at h ⊢;exact one (f:=fun _=>aY P (fun a=>.convert s t a) (qJ env x)) h fun _ h=>h
 case makeFunc fn a b=>exact one (f:=fun _=>vE fn (a.toList.map (qJ env)) (b.toList.map (qJ env))) h fun _ h=>h
 case slice t x lo hi mx =>
  cases mx with
  | some=>cases h
  | none =>
    simp only at h ⊢;split at h
    ·rename_i s hs;split at h
     ·rename_i vs hvs;exact one (f:=fun _=>qNG P (.slice t (.const (.string s)) (lo.map fun a=>.const ((pl (qJ env a)).getD undef)) (hi.map fun a=>.const ((pl (qJ env a)).getD undef)) none)) h fun _ h=>h
     ·cases h
    ·exact one (f:=fun q=>wP P t (qJ env x) (lo.map (qJ env)) (hi.map (qJ env)) q) h fun hd h=>qZK h (mem (by cases lo <;> cases hi <;> simp[Op.operands]) hd)
 case fieldAddr t x i=>exact one (f:=fun q=>zX P t (qJ env x) i q) h fun hd h=>qKM h (mem (by simp[Op.operands]) hd)
 case indexAddr t x ix=>exact one (f:=fun q=>qZ P t (qJ env x) (qJ env ix) q) h fun hd h=>qJ8 h (mem (by simp[Op.operands]) hd)
 case index t x ix =>
  split at h
  ·rename_i s j hs hj;exact one (f:=fun _=>qNG P (.index t (.const (.string s)) (.const j))) h fun _ h=>h
  ·exact one (f:=fun _=>qD3 P t (qJ env x) (qJ env ix)) h fun _ h=>h
 case extract t i=>exact one (f:=fun _=>cB (qJ env t) i) h fun _ h=>h
 case makeMap=>rcases hne with h | h <;> cases h
 case lookup t x kx ok=>exact one (f:=fun q=>uL P t (qJ env x) (qJ env kx) ok q) h fun hd h=>qVY h (mem (by simp[Op.operands]) hd)
 case mapUpdate=>rcases hne with h | h <;> cases h
 case range=>rcases hne with h | h <;> cases h
 case next=>rcases hne with h | h <;> cases h
 case call c =>
  obtain⟨cal,args,ts⟩:=c;split at h
  ·rename_i b hb;simp only at hb;subst hb
   have dry:∀ {b:Builtin},vR P b ⟨.builtin b,args,ts⟩ (args.toList.map (qJ env)) env ty ph=some (v,ph1)->ph1=ph∧∀ ph',vR P b ⟨.builtin b,args,ts⟩ (args.toList.map (qJ env)) env ty ph'=some (v,ph'):=fun h=>by
    unfold vR at h ⊢;split at h
    ·obtain⟨h1,h2⟩:=zY h;exact⟨h2,fun ph'=>by rw[h1];rfl⟩
    ·cases h
   unfold wS at h;split at h
   ·rcases hne with h | h <;> cases h
   ·rcases hne with h | h <;> cases h
   ·split at h
    ·rename_i x hx
     obtain⟨a1,ha1,rfl⟩:∃ a1,args=#[a1]∧x=qJ env a1:=by
      cases hq:args.toList with
      | nil=>rw[hq] at hx;cases hx
      | cons a l =>
        rw[hq] at hx
        cases l with
        | nil =>
          simp only[zNH,zO7,zNW,and_true] at hx
          exact ⟨a, by have e9:args=args.toList.toArray:=by simp
                       rw[e9,hq],hx.symm⟩
        | cons=>cases hx
     subst ha1
     cases hc:qYX P ts with
     | true =>
       rw[hc] at h;obtain⟨h1,h2⟩:=dry h;refine⟨h1,fun k' ph' hd=>?_⟩;unfold wS;simp only[zNH,zO7,hc,cond_true];exact h2 ph'
     | false =>
       rw[hc] at h;obtain⟨h1,h2⟩:=zY h;refine⟨h2,fun k' ph' hd=>?_⟩;unfold wS;simp only[zNH,zO7,hc,cond_false];rw[q6R h1 (mem (by simp[Op.operands,Call.operands]) hd)];rfl
    ·cases h
   ·obtain⟨h1,h2⟩:=dry h;exact⟨h1,fun k' ph' hd=>h2 ph'⟩
   ·obtain⟨h1,h2⟩:=dry h;exact⟨h1,fun k' ph' hd=>h2 ph'⟩
   ·cases h
  ·cases h
end Go.Idl
