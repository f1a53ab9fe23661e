/- Regions that draw their order, on values without a heap. Conditions: none. -/
import Derived.Test.YtmojbdabaigobaaGreatDoorPurB
set_option linter.all false
namespace Go.Idl
variable [Gc]
variable {P:Program}{G:Nat->Bool}{nat:xC}{tab:uT}{nm:Nm}
noncomputable def pI (P:Program)(tab:uT)(g:FuncId)(as:List PV)(ph:PHp):PE:=match fzA P as ph with
 | some (zF3,_)=>(match tab g (rtA P g zF3) with
   | some r=>cond (vD r||as.all qKP) (.ok r ph) .fail
   | none=>.fail)
 | none=>.fail
noncomputable def zN (P:Program)(tab:uT)(k:Nat)(o:Oper)(env:List PV)(ph:PHp):PE:=match o.op with
 | .call ⟨.value f,args,_⟩=>(match target (qK env f) (args.toList.map (qK env)) with
   | some (g,as)=>pI P tab g as ph
   | none=>.fail)
 | _=>peO (sV P o env k ph)
theorem qO3 {n:Nat}:∀ {cs:List PV} {ph:PHp},cs.all qS4=true->∃ ys,tH (fz1 P n) cs ph=some (ys,ph)
 | [],ph,_=>⟨[],rfl⟩
 | c::cs,ph,h=>by
   simp only[zPY,zOG] at h;obtain⟨ys,hy⟩:=qO3 (n:=n) (ph:=ph) h.2
   cases c with
   | f x =>
     have e:fz1 P n ph (.f x)=some (x,ph):=by cases n <;> rfl
     exact⟨x::ys,by unfold tH;rw[e];simp only[hy]⟩
   | _=>exact absurd h.1 zRD
theorem qTG:∀ {as:List PV} {ph:PHp},as.all qKP=true->∃ ys,fzA P as ph=some (ys,ph)
 | [],ph,_=>⟨[],rfl⟩
 | a::as,ph,h=>by
   simp only[zPY,zOG] at h;obtain⟨ys,hy⟩:=qTG (ph:=ph) h.2
   have:∃ y,fzP P ph a=some (y,ph):=by
    cases a with
    | f x=>exact⟨_,rfl⟩
    | agg cs =>
      obtain⟨zs,hz⟩:=qO3 (P:=P) (n:=4) (ph:=ph) (cs:=cs) h.1;exact⟨_,by unfold fzP;simp only[hz];rfl⟩
    | _=>exact absurd h.1 zRD
   obtain⟨y,h1⟩:=this;exact⟨y::ys,by unfold fzA;simp only[h1,hy]⟩
theorem qJX {inl:FuncId->Bool}{fv:PV}{args as:List PV}{g:FuncId}{ph:PHp}(h:target fv args=some (g,as)):oL P tab inl fv args ph=d9 P tab inl g as ph:=by
 unfold target at h;split at h
 ·rename_i g' a c;unfold oL
  cases hc:(a.toList.isEmpty&&c.toList.isEmpty) with
  | true=>rw[hc] at h;cases h;simp only[hc,cond_true]
  | false=>rw[hc] at h;cases h
 ·cases h;rfl
 ·cases h
theorem q1Y {r:Option (PV×PHp)}{v:PV}{ph':PHp}(h:peO r=.ok v ph'):r=some (v,ph'):=by
 unfold peO at h;split at h
 ·cases h;rfl
 ·cases h
theorem qK7 {k:Nat}{o:Oper}{env:List PV}{ph ph':PHp}{v:PV}(h:zN P tab k o env ph=.ok v ph'):bB P tab (fun _=>false) k o env ph=.ok v ph':=by
 by_cases hc:∃ f args ts,o.op=.call ⟨.value f,args,ts⟩
 ·obtain⟨f,args,ts,ho⟩:=hc;unfold zN at h;unfold bB;rw[ho] at h ⊢;simp only at h ⊢;split at h
  ·rename_i g as ht;rw[qJX ht];show aB P tab g as ph=_;unfold pI at h;unfold aB;split at h
   ·rename_i zF3 ph1 hf;split at h
    ·rename_i r hr
     cases hp:vD r with
     | true=>rw[hp] at h;rw[hf];simp only[hr,hp];exact h
     | false =>
       rw[hp] at h
       cases ha:as.all qKP with
       | false=>rw[ha] at h;cases h
       | true =>
         rw[ha] at h;obtain⟨ys,hy⟩:=qTG (P:=P) (ph:=ph) ha;rw[hy] at hf;cases hf;rw[hy];simp only[hr,hp];exact h
    ·cases h
   ·cases h
  ·cases h
 ·unfold zN at h;unfold bB;split
  ·rename_i f args ts ho;exact absurd ⟨f,args,ts,ho⟩ hc
  ·split at h
   ·rename_i f args ts ho;exact absurd ⟨f,args,ts,ho⟩ hc
   ·rw[qWO (q1Y h)];rfl
theorem aG {k:Nat}{o:Oper}{env env':List PV}{ph:PHp}(h:∀ x∈o.op.operands,qK env x=qK env' x):zN P tab k o env ph=zN P tab k o env' ph:=by
 unfold zN;split
 ·rename_i f args ts hop;rw[hop] at h;have hf:qK env f=qK env' f:=h f (by simp[Op.operands,Call.operands]);have ha:args.toList.map (qK env)=args.toList.map (qK env'):=zP3 fun x hx=>h x (by simp[Op.operands,Call.operands,zPW,hx])
  rw[hf,ha]
 ·rw[qR6 h]
theorem qCZ {f:Operand}{args:Array Operand}{ts:Array TypeId}{k:Nat}{o:Oper}{env:List PV}{ph ph':PHp}{v:PV}(ho:o.op=.call ⟨.value f,args,ts⟩)(h:zN P tab k o env ph=.ok v ph'):ph'=ph:=by
 unfold zN at h;rw[ho] at h;simp only at h;split at h
 ·unfold pI at h;split at h
  ·split at h
   ·rename_i r hr
    cases hc:(vD r||_) with
    | true=>rw[hc] at h;cases h;rfl
    | false=>rw[hc] at h;cases h
   ·cases h
  ·cases h
 ·cases h
theorem wK {r:Option (PV×PHp)}{v:PV}{ph':PHp}(h:peO r=.ok v ph'):r=some (v,ph'):=by
 unfold peO at h;split at h
 ·cases h;rfl
 ·cases h
theorem qQG {o:Oper}{env:List PV}{k:Nat}{ph ph1:PHp}{v:PV}(hf:yS o=false)(ha:qL o=false)(h:zN P tab k o env ph=.ok v ph1) :
 ph1=ph∧∀ (k':Nat) (ph':PHp),(∀ l∈dlO o env,qA l ph'=qA l ph)->zN P tab k' o env ph'=.ok v ph':=by
 by_cases hc:∃ f args ts,o.op=.call ⟨.value f,args,ts⟩
 ·obtain⟨f,args,ts,ho⟩:=hc
  rcases qG6 hf ha with h1 | h1 <;> (unfold xM at h1;rw[ho] at h1;cases h1)
 ·have e:∀ k ph,zN P tab k o env ph=peO (sV P o env k ph):=fun k ph=>by
   unfold zN;split
   ·rename_i f args ts ho;exact absurd ⟨f,args,ts,ho⟩ hc
   ·rfl
  rw[e] at h;obtain⟨h1,h2⟩:=q9F hf ha (wK h);exact⟨h1,fun k' ph' hd=>by rw[e,h2 k' ph' hd];rfl⟩
def shp (k:Nat)(ph:PHp):Option (TypeId×Nat):=(qA k ph).map fun o=>(o.el,o.cs.length)
def qPS (l:Nat)(ph' ph:PHp):Prop:=(∀ k,l=2*k->qA k ph'=qA k ph)∧∀ k,l=2*k+1->shp k ph'=shp k ph
theorem qPS.refl (l:Nat)(ph:PHp):qPS l ph ph:=⟨fun _ _=>rfl,fun _ _=>rfl⟩
theorem qPS.symm {l:Nat}{a b:PHp}(h:qPS l a b):qPS l b a:=⟨fun k e=>(h.1 k e).symm,fun k e=>(h.2 k e).symm⟩
theorem qPS.trans {l:Nat}{a b c:PHp}(h:qPS l a b)(g:qPS l b c):qPS l a c:=⟨fun k e=>(h.1 k e).trans (g.1 k e),fun k e=>(h.2 k e).trans (g.2 k e)⟩
theorem qPS.of {l:Nat}{a b:PHp}(h:∀ k,l=2*k∨l=2*k+1->qA k a=qA k b):qPS l a b:=⟨fun k e=>h k (.inl e),fun k e=>by unfold shp;rw[h k (.inr e)]⟩
noncomputable def dlT (o:Oper)(env:List PV):List Nat:=match o.op with
 | .indexAddr _ _ _=>(dlO o env).map fun k=>2*k+1
 | .fieldAddr _ _ _=>(dlO o env).map fun k=>2*k+1
 | .move _=>[]
 | .assign _=>[]
 | _=>(dlO o env).map fun k=>2*k
noncomputable def wlT (nm:Nm)(o:Oper)(env:List PV):List Nat:=match o.op with
 | .call ⟨.value _,_,_⟩=>[]
 | .store _ _ _=>(dlO o env).map fun k=>2*k
 | _=>(qH nm o.dst::dlO o env).flatMap fun k=>[2*k,2*k+1]
theorem q31 {k tt:Nat}{ph ph':PHp}(h:shp k ph'=shp k ph):live? k tt ph'=live? k tt ph:=by
 unfold live?;unfold shp at h
 cases h1:qA k ph with
 | none =>
   rw[h1] at h;simp only[zSS,Option.map_eq_none_iff] at h;rw[h]
 | some a =>
   rw[h1] at h;simp only[zOW] at h;obtain⟨b,h2,h3⟩:=zOR.1 h;injection h3 with h4 h5;rw[h2];simp only[h5]
theorem qHZ {t:TypeId}{a x:PV}{i:Nat}{ph ph':PHp}(h:zY P t a i ph=some x)(hd:∀ l∈dl1 a,shp l ph'=shp l ph):zY P t a i ph'=some x:=by
 cases a <;> first | exact h | skip
 rename_i k tt off;have:=q31 (tt:=tt) (hd k (by simp[dl1]));unfold zY at h ⊢;simp only[this];exact h
theorem qH9 {t:TypeId}{a ix x:PV}{ph ph':PHp}(h:zC P t a ix ph=some x)(hd:∀ l∈dl1 a,shp l ph'=shp l ph):zC P t a ix ph'=some x:=by
 unfold zC at h ⊢;split at h
 ·split at h
  ·exact h
  ·rename_i k tt o n;have hs:=hd k (by simp[dl1]);unfold shp at hs;split at h
   ·rename_i el' ob h1 h2;rw[h2] at hs;simp only[zOW] at hs;obtain⟨ob',h3,h4⟩:=zOR.1 hs;injection h4 with h5 h6;simp only[h1,h3,h5,h6];exact h
   ·cases h
  ·rename_i k tt off;rw[q31 (tt:=tt) (hd k (by simp[dl1]))];exact h
  ·exact h
  ·cases h
 ·cases h
theorem q1B {t:TypeId}{a x:PV}{ph ph':PHp}(h:jG P t a x ph=some ph'):(∀ l,l ∉ dl1 a->qA l ph'=qA l ph)∧∀ l,shp l ph'=shp l ph:=by
 unfold jG at h;split at h
 ·rename_i k tt off;split at h
  ·rename_i ob hob;split at h
   ·rename_i n hn
    replace h:=(gF h).2
    cases hc:(Nat.beq tt ob.cs.length&&(Nat.beq n (zG x).length&&(Nat.ble (off+n) ob.cs.length&&(pnt x&&(zG x).all fU)))) with
    | true =>
      rw[hc] at h;cases h;rw[zOG,zOG,zOG] at hc;have h1:n=(zG x).length:=zOH hc.2.1;have h2:off+n<=ob.cs.length:=zOQ hc.2.2.1;refine⟨fun l hl=>by rw[zD,if_neg (fun e=>hl (by rw[e.1];simp[dl1]))],fun l=>?_⟩;unfold shp;rw[zD];split
      ·rename_i e;rw[e.1,hob];simp only[zOW];rw[bW (by omega)]
      ·rfl
    | false=>rw[hc] at h;cases h
   ·cases h
  ·cases h
 ·cases h
theorem kR {o:Oper}(hc:¬ ∃ f args ts,o.op=.call ⟨.value f,args,ts⟩)(k:Nat)(env:List PV)(ph:PHp):zN P tab k o env ph=peO (sV P o env k ph):=by
 unfold zN;split
 ·rename_i f args ts ho;exact absurd ⟨f,args,ts,ho⟩ hc
 ·rfl
theorem qYM {o:Oper}{env:List PV}{ph ph':PHp}{v:PV}(h:zN P tab (qH nm o.dst) o env ph=.ok v ph'){l:Nat}(hl:l ∉ wlT nm o env):qPS l ph' ph:=by
 by_cases hc:∃ f args ts,o.op=.call ⟨.value f,args,ts⟩
 ·obtain⟨f,args,ts,ho⟩:=hc;rw[qCZ ho h];exact .refl _ _
 ·by_cases hst:∃ t a x,o.op=.store t a x
  ·obtain⟨t,a,x,ho⟩:=hst;have h1:=wK ((kR hc _ _ _).symm.trans h);obtain⟨d,op,ty,pos,aft,g⟩:=o;cases ho;simp only[sV] at h1;unfold ppS at h1;split at h1
   ·rename_i ph1 hs;cases h1;obtain⟨a1,a2⟩:=q1B hs;refine⟨fun k e=>a1 k fun hk=>hl ?_,fun k _=>a2 k⟩;exact zO6.2 ⟨k,pU (o:=⟨d,.store t a x,ty,pos,aft,g⟩) (by simp[Op.operands]) hk,e.symm⟩
   ·cases h1
  ·have e2:wlT nm o env=(qH nm o.dst::dlO o env).flatMap fun k=>[2*k,2*k+1]:=by
    unfold wlT;split
    ·rename_i f args ts ho;exact absurd ⟨f,args,ts,ho⟩ hc
    ·rename_i t a x ho;exact absurd ⟨t,a,x,ho⟩ hst
    ·rfl
   have h1:=wK ((kR hc _ _ _).symm.trans h);refine .of fun k hk=>?_
   have hn:k ∉ qH nm o.dst::dlO o env:=fun hm=>hl (by
    rw[e2];refine List.mem_flatMap.2 ⟨k,hm,?_⟩
    rcases hk with e | e <;> simp[e])
   simp only[zO1,not_or] at hn;exact q8V h1 hn.1 hn.2
theorem oO {o:Oper}{env:List PV}{k:Nat}{ph ph1:PHp}{v:PV}(hf:yS o=false)(ha:qL o=false)(h:zN P tab k o env ph=.ok v ph1) :
 ph1=ph∧∀ (k':Nat) (ph':PHp),(∀ l∈dlT o env,qPS l ph' ph)->zN P tab k' o env ph'=.ok v ph':=by
 obtain⟨e1,e2⟩:=qQG hf ha h;refine⟨e1,fun k' ph' hd=>?_⟩;subst e1;have gen:dlT o env=(dlO o env).map (fun k=>2*k)->zN P tab k' o env ph'=.ok v ph':=fun hg=>e2 k' ph' fun l hl=>(hd (2*l) (by rw[hg];exact zO6.2 ⟨l,hl,rfl⟩)).1 l rfl
 have sh:dlT o env=(dlO o env).map (fun k=>2*k+1)->∀ l∈dlO o env,shp l ph'=shp l ph1:=fun hg l hl=>(hd (2*l+1) (by rw[hg];exact zO6.2 ⟨l,hl,rfl⟩)).2 l rfl
 obtain⟨d,op,ty,pos,aft,g⟩:=o
 cases op <;> first | exact gen rfl | skip
 case move x =>
  have h1:=wK (r:=some (qK env x,ph1)) h;cases h1;rfl
 case assign x =>
  have h1:=wK (r:=some (qK env x,ph1)) h;cases h1;rfl
 case indexAddr t x ix =>
  have h1:=yC (wK h);show peO (pp1 ph' (zC P t (qK env x) (qK env ix) ph'))=_;rw[qH9 h1.1 fun l hl=>sh rfl l (pU (o:=⟨d,.indexAddr t x ix,ty,pos,aft,g⟩) (x:=x) (by simp[Op.operands]) hl)];rfl
 case fieldAddr t x i =>
  have h1:=yC (wK h);show peO (pp1 ph' (zY P t (qK env x) i ph'))=_;rw[qHZ h1.1 fun l hl=>sh rfl l (pU (o:=⟨d,.fieldAddr t x i,ty,pos,aft,g⟩) (x:=x) (by simp[Op.operands]) hl)];rfl
def zB (o:Oper):Bool:=yS o||qL o
theorem nP {o:Oper}(h:zB o=false):yS o=false∧qL o=false:=by
 unfold zB at h;rw[zQ4] at h;exact h
def fZ (ops:Array Oper):Bool:=ops.toList.zipIdx.all fun p=>ops.toList.zipIdx.all fun q=>Nat.beq p.2 q.2||(!zB p.1||(!zB q.1||(vI (Region.before ops) p.2 q.2||vI (Region.before ops) q.2 p.2)))
theorem qKF {ops:Array Oper}(h:fZ ops=true)(k j:Nat)(q o:Oper)(hkj:k≠j)(hk:ops[k]?=some q)(ho:ops[j]?=some o)(hq:zB q=true)(he:zB o=true):vI (Region.before ops) k j=true∨vI (Region.before ops) j k=true:=by
 unfold fZ at h;have h1:=zOJ.1 h (q,k) (zQ1.2 (by simpa using hk));have h2:=zOJ.1 h1 (o,j) (zQ1.2 (by simpa using ho));simp only[hq,he,zSF,zRF,zPL] at h2;rcases h2 with h | h | h
 ·exact absurd (zOH h) hkj
 ·exact .inl h
 ·exact .inr h
def qZE (ops:List Oper)(j k:Nat):Bool:=match ops[j]?,ops[k]? with
 | some o,some q=>(match o.op,q.op with
   | .lookup t (.tmp a) (.tmp c) false,.mapEntry t' (.tmp a') (.tmp c')=>Nat.beq t t'&&Nat.beq a a'&&Nat.beq c c'&&Nat.blt j k&&ops.zipIdx.all fun p=>!(Nat.ble j p.2)||!(Nat.blt p.2 k)||(match p.1.dst with | some d=>!(Nat.beq d a)&&!(Nat.beq d c) | none=>true)
   | _,_=>false)
 | _,_=>false
structure DB where
 b:Array Nat
 x:Nat->Nat->Bool
def dBo (ops:Array Oper):DB:=⟨Region.before ops,qZE ops.toList⟩
noncomputable def mV (b:DB)(zE3:List PV)(E F:List (Nat×List Nat))(N:List (Nat×Nat))(V:List (Nat×PV)):Bool :=
 (F.all fun f=>E.all fun e=>qPY b.b e.1 f.1||(b.x f.1 e.1||f.2.all fun l=>!e.2.contains l))&&N.all fun n=>yA n.2 zE3&&V.all fun v=>Nat.beq v.1 n.1||(vI b.b n.1 v.1||noK n.2 v.2)
def qCF (c x:Bool)(t:PT):PT:=cond c (.chk x t) t
noncomputable def qIW (P:Program)(tab:uT)(nm:Nm)(ds:List (Option Tmp))(b:DB)(zE3:List PV):Nat->List Oper->List PV->PHp->List (Nat×List Nat)->List (Nat×List Nat)->List (Nat×Nat)->List (Nat×PV)->PT
 | i,[],env,ph,E,F,N,V=>.chk (mV b zE3 E F N V) (.ret env ph)
 | i,o::l,env,ph,E,F,N,V=>j6 (vH ds o env)
    (match zN P tab (qH nm o.dst) o env ph with
     | .ok v ph'=>qCF (needs o.op) (inP nm (qH nm o.dst)&&fT (qH nm o.dst) ph) (qIW P tab nm ds b zE3 (i+1) l (yO env o.dst v) ph' (cond (zB o) ((i,wlT nm o env)::E) E) (cond (zB o) F ((i,dlT o env)::F)) (cond (needs o.op) ((i,qH nm o.dst)::N) N) ((i,v)::V))
     | _=>.fail)
    (qIW P tab nm ds b zE3 (i+1) l (yO env o.dst (.tup [])) ph E F N ((i,.tup [])::V)) .fail
structure TrI (P:Program) (tab:uT) (nm:Nm) (ds:List (Option Tmp)) (b:DB) (ops:List Oper) (zE3:List PV) (ph0:PHp) (En:Nat->List PV) (Hs:Nat->PHp) (V:Nat->PV) (j:Nat) (E F:List (Nat×List Nat)) (N:List (Nat×Nat)) (W:List (Nat×PV)):Prop where
 e0:En 0=zE3
 h0:Hs 0=ph0
 step:∀ i o,ops[i]?=some o->En (i+1)=yO (En i) o.dst (V i)∧(j+i,V i)∈W ∧
  ((vH ds o (En i)=some true∧zN P tab (qH nm o.dst) o (En i) (Hs i)=.ok (V i) (Hs (i+1))∧(needs o.op=true->inP nm (qH nm o.dst)=true∧fT (qH nm o.dst) (Hs i)=true∧(j+i,qH nm o.dst)∈N) ∧
     (zB o=true->(j+i,wlT nm o (En i))∈E)∧(zB o=false->(j+i,dlT o (En i))∈F)) ∨
    (vH ds o (En i)=some false∧V i=.tup []∧Hs (i+1)=Hs i))
theorem qFF {Q:List PV->PHp->Prop}{ds:List (Option Tmp)}{b:DB}{zE3:List PV}:∀ (l:List Oper) (j:Nat) (env:List PV) (ph:PHp) (E F:List (Nat×List Nat)) (N:List (Nat×Nat)) (W:List (Nat×PV)),
 (qIW P tab nm ds b zE3 j l env ph E F N W).holds P G Q->∃ En Hs V E' F' N' W',TrI P tab nm ds b l env ph En Hs V j E' F' N' W'∧(∀ x∈E,x∈E')∧(∀ x∈F,x∈F')∧(∀ x∈N,x∈N')∧(∀ x∈W,x∈W')∧mV b zE3 E' F' N' W'=true∧Q (En l.length) (Hs l.length)
 | [],j,env,ph,E,F,N,W,h=>⟨fun _=>env,fun _=>ph,fun _=>.unk,E,F,N,W,⟨rfl,rfl,fun i o h=>by simp at h⟩,fun _ h=>h,fun _ h=>h,fun _ h=>h,fun _ h=>h,h.1,h.2⟩
 | o::l,j,env,ph,E,F,N,W,h=>by
   unfold qIW j6 at h;split at h
   ·rename_i hw;split at h
    ·rename_i v ph' hx
     have hh:(needs o.op=true->inP nm (qH nm o.dst)=true∧fT (qH nm o.dst) ph=true)∧(qIW P tab nm ds b zE3 (j+1) l (yO env o.dst v) ph' (cond (zB o) ((j,wlT nm o env)::E) E) (cond (zB o) F ((j,dlT o env)::F)) (cond (needs o.op) ((j,qH nm o.dst)::N) N) ((j,v)::W)).holds P G Q:=by
      unfold qCF at h
      cases hn:needs o.op with
      | true =>
        rw[hn] at h;obtain⟨hc,h⟩:=h;rw[zOG] at hc;exact⟨fun _=>hc,h⟩
      | false=>rw[hn] at h;exact⟨fun h=>by (cases h),h⟩
     obtain⟨hc,h⟩:=hh;obtain⟨En,Hs,V,E',F',N',W',t,a1,a2,a3,a4,a5,a6⟩:=qFF l (j+1) _ _ _ _ _ _ h;refine⟨fun i=>Nat.casesOn i env fun i=>En i,fun i=>Nat.casesOn i ph fun i=>Hs i,fun i=>Nat.casesOn i v fun i=>V i,E',F',N',W',⟨rfl,rfl,fun i p hi=>?_⟩,fun x hx=>a1 x ?_,fun x hx=>a2 x ?_,fun x hx=>a3 x ?_,fun x hx=>a4 x (zOK _ hx),a5,a6⟩
     ·cases i with
      | zero =>
        simp only[zO9,zOP] at hi;subst hi;have e0:Hs 0=ph':=t.h0;have hx0:zN P tab (qH nm o.dst) o env ph=.ok v (Hs 0):=by rw[e0];exact hx
        refine⟨t.e0,a4 _ zON,.inl ⟨hw,hx0,fun hn=>?_,fun he=>a1 _ (by rw[he];exact zON),fun he=>a2 _ (by rw[he];exact zON)⟩⟩;have hc:=hc hn;exact⟨hc.1,hc.2,a3 _ (by rw[hn];exact zON)⟩
      | succ i =>
        have:=t.step i p (by simpa using hi);rw[show j+1+i=j+(i+1) by omega] at this;exact this
     ·cases zB o
      ·exact hx
      ·exact zOK _ hx
     ·cases zB o
      ·exact zOK _ hx
      ·exact hx
     ·cases needs o.op
      ·exact hx
      ·exact zOK _ hx
    ·exact h.elim
   ·rename_i hw;obtain⟨En,Hs,V,E',F',N',W',t,a1,a2,a3,a4,a5,a6⟩:=qFF l (j+1) _ _ _ _ _ _ h;refine⟨fun i=>Nat.casesOn i env fun i=>En i,fun i=>Nat.casesOn i ph fun i=>Hs i,fun i=>Nat.casesOn i (.tup []) fun i=>V i,E',F',N',W',⟨rfl,rfl,fun i p hi=>?_⟩,a1,a2,a3,fun x hx=>a4 x (zOK _ hx),a5,a6⟩
    cases i with
    | zero =>
      simp only[zO9,zOP] at hi;subst hi;exact⟨t.e0,a4 _ zON,.inr ⟨hw,rfl,t.h0⟩⟩
    | succ i =>
      have:=t.step i p (by simpa using hi);rw[show j+1+i=j+(i+1) by omega] at this;exact this
   ·exact h.elim
def sW (P:Program)(tab:uT)(o:Oper)(env:List PV)(a b:PHp):Prop:=∀ (k:Nat) (v:PV),zN P tab k o env a=.ok v a ↔ zN P tab k o env b=.ok v b
theorem sW.refl {o:Oper}{env:List PV}(a:PHp):sW P tab o env a a:=fun _ _=>Iff.rfl
theorem sW.trans {o:Oper}{env:List PV}{a b c:PHp}(h:sW P tab o env a b)(g:sW P tab o env b c):sW P tab o env a c:=fun k v=>(h k v).trans (g k v)
theorem sW.tk {o:Oper}{env:List PV}{a b:PHp}(hf:yS o=false)(ha:qL o=false)(h:∀ l∈dlT o env,qPS l b a):sW P tab o env a b:=fun k v =>
 ⟨fun e=>(oO hf ha e).2 k b h,fun e=>(oO hf ha e).2 k a fun l hl=>(h l hl).symm⟩
theorem sW.look {o q:Oper}{env env':List PV}{a b:PHp}{t:TypeId}{m c:Tmp}{kq:Nat}{y:PV}(ho:o.op=.lookup t (.tmp m) (.tmp c) false)(hq:q.op=.mapEntry t (.tmp m) (.tmp c))(h1:qK env' (.tmp m)=qK env (.tmp m))(h2:qK env' (.tmp c)=qK env (.tmp c))(h:zN P tab kq q env' a=.ok y b):sW P tab o env a b:=by
 have hc:¬ ∃ f args ts,q.op=.call ⟨.value f,args,ts⟩:=fun ⟨f,args,ts,e⟩=>by rw[hq] at e;cases e
 have:=wK ((kR hc _ _ _).symm.trans h);unfold sV at this;rw[hq] at this;cases this
end Go.Idl
