/- Regions that draw their order, on values without a heap. Conditions: none. -/
import Derived.Test.YtdohendjiddokaaGreatDoorPurB
set_option linter.all false
namespace Go.Idl
variable [Gc]
variable {P:Program}{G:Nat->Bool}{nat:xJ}{tab:uZ}{nm:Nm}
noncomputable def r9 (P:Program)(tab:uZ)(g:FuncId)(as:List PV)(ph:PHp):PE:=match fzA P as ph with
 | some (zHT,_)=>(match tab g (rtA P g zHT) with
   | some r=>cond (vJ r||as.all qKR) (.ok r ph) .fail
   | none=>.fail)
 | none=>.fail
noncomputable def zL (P:Program)(tab:uZ)(k:Nat)(o:Oper)(env:List PV)(ph:PHp):PE:=match o.op with
 | .call ⟨.value f,args,_⟩=>(match target (qJ env f) (args.toList.map (qJ env)) with
   | some (g,as)=>r9 P tab g as ph
   | none=>.fail)
 | _=>peO (sO P o env k ph)
theorem qRE {n:Nat}:∀ {cs:List PV} {ph:PHp},cs.all qT4=true->∃ ys,qAF (fz1 P n) cs ph=some (ys,ph)
 | [],ph,_=>⟨[],rfl⟩
 | c::cs,ph,h=>by
   simp only[zRF,zPY] at h;obtain⟨ys,hy⟩:=qRE (n:=n) (ph:=ph) h.2
   cases c with
   | f x =>
     have e:fz1 P n ph (.f x)=some (x,ph):=by cases n <;> rfl
     exact⟨x::ys,by unfold qAF;rw[e];simp only[hy]⟩
   | _=>exact absurd h.1 zSU
theorem qV3:∀ {as:List PV} {ph:PHp},as.all qKR=true->∃ ys,fzA P as ph=some (ys,ph)
 | [],ph,_=>⟨[],rfl⟩
 | a::as,ph,h=>by
   simp only[zRF,zPY] at h;obtain⟨ys,hy⟩:=qV3 (ph:=ph) h.2
   have:∃ y,fzP P ph a=some (y,ph):=by
    cases a with
    | f x=>exact⟨_,rfl⟩
    | agg cs =>
      obtain⟨zs,hz⟩:=qRE (P:=P) (n:=4) (ph:=ph) (cs:=cs) h.1;exact⟨_,by unfold fzP;simp only[hz];rfl⟩
    | _=>exact absurd h.1 zSU
   obtain⟨y,h1⟩:=this;exact⟨y::ys,by unfold fzA;simp only[h1,hy]⟩
theorem qK3 {inl:FuncId->Bool}{fv:PV}{args as:List PV}{g:FuncId}{ph:PHp}(h:target fv args=some (g,as)):oP P tab inl fv args ph=mF P tab inl g as ph:=by
 unfold target at h;split at h
 ·rename_i g' a c;unfold oP
  cases hc:(a.toList.isEmpty&&c.toList.isEmpty) with
  | true=>rw[hc] at h;cases h;simp only[hc,cond_true]
  | false=>rw[hc] at h;cases h
 ·cases h;rfl
 ·cases h
theorem q0I {r:Option (PV×PHp)}{v:PV}{ph':PHp}(h:peO r=.ok v ph'):r=some (v,ph'):=by
 unfold peO at h;split at h
 ·cases h;rfl
 ·cases h
theorem qLI {k:Nat}{o:Oper}{env:List PV}{ph ph':PHp}{v:PV}(h:zL P tab k o env ph=.ok v ph'):aU P tab (fun _=>false) k o env ph=.ok v ph':=by
 by_cases hc:∃ f args ts,o.op=.call ⟨.value f,args,ts⟩
 ·obtain⟨f,args,ts,ho⟩:=hc;unfold zL at h;unfold aU;rw[ho] at h ⊢;simp only at h ⊢;split at h
  ·rename_i g as ht;rw[qK3 ht];show aF P tab g as ph=_;unfold r9 at h;unfold aF;split at h
   ·rename_i zHT ph1 hf;split at h
    ·rename_i r hr
     cases hp:vJ r with
     | true=>rw[hp] at h;rw[hf];simp only[hr,hp];exact h
     | false =>
       rw[hp] at h
       cases ha:as.all qKR with
       | false=>rw[ha] at h;cases h
       | true =>
         rw[ha] at h;obtain⟨ys,hy⟩:=qV3 (P:=P) (ph:=ph) ha;rw[hy] at hf;cases hf;rw[hy];simp only[hr,hp];exact h
    ·cases h
   ·cases h
  ·cases h
 ·unfold zL at h;unfold aU;split
  ·rename_i f args ts ho;exact absurd ⟨f,args,ts,ho⟩ hc
  ·split at h
   ·rename_i f args ts ho;exact absurd ⟨f,args,ts,ho⟩ hc
   ·rw[qVA (q0I h)];rfl
theorem aR {k:Nat}{o:Oper}{env env':List PV}{ph:PHp}(h:∀ x∈o.op.operands,qJ env x=qJ env' x):zL P tab k o env ph=zL P tab k o env' ph:=by
 unfold zL;split
 ·rename_i f args ts hop;rw[hop] at h;have hf:qJ env f=qJ env' f:=h f (by simp[Op.operands,Call.operands]);have ha:args.toList.map (qJ env)=args.toList.map (qJ env'):=zRJ fun x hx=>h x (by simp[Op.operands,Call.operands,zRC,hx])
  rw[hf,ha]
 ·rw[qS9 h]
theorem qBQ {f:Operand}{args:Array Operand}{ts:Array TypeId}{k:Nat}{o:Oper}{env:List PV}{ph ph':PHp}{v:PV}(ho:o.op=.call ⟨.value f,args,ts⟩)(h:zL P tab k o env ph=.ok v ph'):ph'=ph:=by
 unfold zL at h;rw[ho] at h;simp only at h;split at h
 ·unfold r9 at h;split at h
  ·split at h
   ·rename_i r hr
    cases hc:(vJ r||_) with
    | true=>rw[hc] at h;cases h;rfl
    | false=>rw[hc] at h;cases h
   ·cases h
  ·cases h
 ·cases h
theorem w9 {r:Option (PV×PHp)}{v:PV}{ph':PHp}(h:peO r=.ok v ph'):r=some (v,ph'):=by
 unfold peO at h;split at h
 ·cases h;rfl
 ·cases h
theorem qPJ {o:Oper}{env:List PV}{k:Nat}{ph ph1:PHp}{v:PV}(hf:yT o=false)(ha:qL o=false)(h:zL P tab k o env ph=.ok v ph1) :
 ph1=ph∧∀ (k':Nat) (ph':PHp),(∀ l∈dlO o env,qA l ph'=qA l ph)->zL P tab k' o env ph'=.ok v ph':=by
 by_cases hc:∃ f args ts,o.op=.call ⟨.value f,args,ts⟩
 ·obtain⟨f,args,ts,ho⟩:=hc
  rcases qGO hf ha with h1 | h1 <;> (unfold xQ at h1;rw[ho] at h1;cases h1)
 ·have e:∀ k ph,zL P tab k o env ph=peO (sO P o env k ph):=fun k ph=>by
   unfold zL;split
   ·rename_i f args ts ho;exact absurd ⟨f,args,ts,ho⟩ hc
   ·rfl
  rw[e] at h;obtain⟨h1,h2⟩:=zAG hf ha (w9 h);exact⟨h1,fun k' ph' hd=>by rw[e,h2 k' ph' hd];rfl⟩
def shp (k:Nat)(ph:PHp):Option (TypeId×Nat):=(qA k ph).map fun o=>(o.el,o.cs.length)
def qPM (l:Nat)(ph' ph:PHp):Prop:=(∀ k,l=2*k->qA k ph'=qA k ph)∧∀ k,l=2*k+1->shp k ph'=shp k ph
theorem qPM.refl (l:Nat)(ph:PHp):qPM l ph ph:=⟨fun _ _=>rfl,fun _ _=>rfl⟩
theorem qPM.symm {l:Nat}{a b:PHp}(h:qPM l a b):qPM l b a:=⟨fun k e=>(h.1 k e).symm,fun k e=>(h.2 k e).symm⟩
theorem qPM.trans {l:Nat}{a b c:PHp}(h:qPM l a b)(g:qPM l b c):qPM l a c:=⟨fun k e=>(h.1 k e).trans (g.1 k e),fun k e=>(h.2 k e).trans (g.2 k e)⟩
theorem qPM.of {l:Nat}{a b:PHp}(h:∀ k,l=2*k∨l=2*k+1->qA k a=qA k b):qPM l a b:=⟨fun k e=>h k (.inl e),fun k e=>by unfold shp;rw[h k (.inr e)]⟩
noncomputable def dlT (o:Oper)(env:List PV):List Nat:=match o.op with
 | .indexAddr _ _ _=>(dlO o env).map fun k=>2*k+1
 | .fieldAddr _ _ _=>(dlO o env).map fun k=>2*k+1
 | .move _=>[]
 | .assign _=>[]
 | _=>(dlO o env).map fun k=>2*k
noncomputable def wlT (nm:Nm)(o:Oper)(env:List PV):List Nat:=match o.op with
 | .call ⟨.value _,_,_⟩=>[]
 | .store _ _ _=>(dlO o env).map fun k=>2*k
 | _=>(qH nm o.dst::dlO o env).flatMap fun k=>[2*k,2*k+1]
theorem q5Q {k tt:Nat}{ph ph':PHp}(h:shp k ph'=shp k ph):live? k tt ph'=live? k tt ph:=by
 unfold live?;unfold shp at h
 cases h1:qA k ph with
 | none =>
   rw[h1] at h;simp only[zUG,Option.map_eq_none_iff] at h;rw[h]
 | some a =>
   rw[h1] at h;simp only[zQC] at h;obtain⟨b,h2,h3⟩:=zP9.1 h;injection h3 with h4 h5;rw[h2];simp only[h5]
theorem qJJ {t:TypeId}{a x:PV}{i:Nat}{ph ph':PHp}(h:zY P t a i ph=some x)(hd:∀ l∈dl1 a,shp l ph'=shp l ph):zY P t a i ph'=some x:=by
 cases a <;> first | exact h | skip
 rename_i k tt off;have:=q5Q (tt:=tt) (hd k (by simp[dl1]));unfold zY at h ⊢;simp only[this];exact h
theorem qJ2 {t:TypeId}{a ix x:PV}{ph ph':PHp}(h:zA P t a ix ph=some x)(hd:∀ l∈dl1 a,shp l ph'=shp l ph):zA P t a ix ph'=some x:=by
 unfold zA at h ⊢;split at h
 ·split at h
  ·exact h
  ·rename_i k tt o n;have hs:=hd k (by simp[dl1]);unfold shp at hs;split at h
   ·rename_i el' ob h1 h2;rw[h2] at hs;simp only[zQC] at hs;obtain⟨ob',h3,h4⟩:=zP9.1 hs;injection h4 with h5 h6;simp only[h1,h3,h5,h6];exact h
   ·cases h
  ·rename_i k tt off;rw[q5Q (tt:=tt) (hd k (by simp[dl1]))];exact h
  ·exact h
  ·cases h
 ·cases h
theorem q3L {t:TypeId}{a x:PV}{ph ph':PHp}(h:jS P t a x ph=some ph'):(∀ l,l ∉ dl1 a->qA l ph'=qA l ph)∧∀ l,shp l ph'=shp l ph:=by
 unfold jS at h;split at h
 ·rename_i k tt off;split at h
  ·rename_i ob hob;split at h
   ·rename_i n hn
    replace h:=(gT h).2
    cases hc:(Nat.beq tt ob.cs.length&&(Nat.beq n (zC x).length&&(Nat.ble (off+n) ob.cs.length&&(pnt x&&(zC x).all aN)))) with
    | true =>
      rw[hc] at h;cases h;rw[zPY,zPY,zPY] at hc;have h1:n=(zC x).length:=zPZ hc.2.1;have h2:off+n<=ob.cs.length:=zP8 hc.2.2.1;refine⟨fun l hl=>by rw[qY,if_neg (fun e=>hl (by rw[e.1];simp[dl1]))],fun l=>?_⟩;unfold shp;rw[qY];split
      ·rename_i e;rw[e.1,hob];simp only[zQC];rw[bW (by omega)]
      ·rfl
    | false=>rw[hc] at h;cases h
   ·cases h
  ·cases h
 ·cases h
theorem xD {o:Oper}(hc:¬ ∃ f args ts,o.op=.call ⟨.value f,args,ts⟩)(k:Nat)(env:List PV)(ph:PHp):zL P tab k o env ph=peO (sO P o env k ph):=by
 unfold zL;split
 ·rename_i f args ts ho;exact absurd ⟨f,args,ts,ho⟩ hc
 ·rfl
theorem qUC {o:Oper}{env:List PV}{ph ph':PHp}{v:PV}(h:zL P tab (qH nm o.dst) o env ph=.ok v ph'){l:Nat}(hl:l ∉ wlT nm o env):qPM l ph' ph:=by
 by_cases hc:∃ f args ts,o.op=.call ⟨.value f,args,ts⟩
 ·obtain⟨f,args,ts,ho⟩:=hc;rw[qBQ ho h];exact .refl _ _
 ·by_cases hst:∃ t a x,o.op=.store t a x
  ·obtain⟨t,a,x,ho⟩:=hst;have h1:=w9 ((xD hc _ _ _).symm.trans h);obtain⟨d,op,ty,pos,aft,g⟩:=o;cases ho;simp only[sO] at h1;unfold ppS at h1;split at h1
   ·rename_i ph1 hs;cases h1;obtain⟨a1,a2⟩:=q3L hs;refine⟨fun k e=>a1 k fun hk=>hl ?_,fun k _=>a2 k⟩;exact zQR.2 ⟨k,rV (o:=⟨d,.store t a x,ty,pos,aft,g⟩) (by simp[Op.operands]) hk,e.symm⟩
   ·cases h1
  ·have e2:wlT nm o env=(qH nm o.dst::dlO o env).flatMap fun k=>[2*k,2*k+1]:=by
    unfold wlT;split
    ·rename_i f args ts ho;exact absurd ⟨f,args,ts,ho⟩ hc
    ·rename_i t a x ho;exact absurd ⟨t,a,x,ho⟩ hst
    ·rfl
   have h1:=w9 ((xD hc _ _ _).symm.trans h);refine .of fun k hk=>?_
   have hn:k ∉ qH nm o.dst::dlO o env:=fun hm=>hl (by
    rw[e2];refine List.mem_flatMap.2 ⟨k,hm,?_⟩
    rcases hk with e | e <;> simp[e])
   simp only[zQK,not_or] at hn;exact zBV h1 hn.1 hn.2
theorem pF {o:Oper}{env:List PV}{k:Nat}{ph ph1:PHp}{v:PV}(hf:yT o=false)(ha:qL o=false)(h:zL P tab k o env ph=.ok v ph1) :
 ph1=ph∧∀ (k':Nat) (ph':PHp),(∀ l∈dlT o env,qPM l ph' ph)->zL P tab k' o env ph'=.ok v ph':=by
 obtain⟨e1,e2⟩:=qPJ hf ha h;refine⟨e1,fun k' ph' hd=>?_⟩;subst e1;have gen:dlT o env=(dlO o env).map (fun k=>2*k)->zL P tab k' o env ph'=.ok v ph':=fun hg=>e2 k' ph' fun l hl=>(hd (2*l) (by rw[hg];exact zQR.2 ⟨l,hl,rfl⟩)).1 l rfl
 have sh:dlT o env=(dlO o env).map (fun k=>2*k+1)->∀ l∈dlO o env,shp l ph'=shp l ph1:=fun hg l hl=>(hd (2*l+1) (by rw[hg];exact zQR.2 ⟨l,hl,rfl⟩)).2 l rfl
 obtain⟨d,op,ty,pos,aft,g⟩:=o
 cases op <;> first | exact gen rfl | skip
 case move x =>
  have h1:=w9 (r:=some (qJ env x,ph1)) h;cases h1;rfl
 case assign x =>
  have h1:=w9 (r:=some (qJ env x,ph1)) h;cases h1;rfl
 case indexAddr t x ix =>
  have h1:=zU (w9 h);show peO (pp1 ph' (zA P t (qJ env x) (qJ env ix) ph'))=_;rw[qJ2 h1.1 fun l hl=>sh rfl l (rV (o:=⟨d,.indexAddr t x ix,ty,pos,aft,g⟩) (x:=x) (by simp[Op.operands]) hl)];rfl
 case fieldAddr t x i =>
  have h1:=zU (w9 h);show peO (pp1 ph' (zY P t (qJ env x) i ph'))=_;rw[qJJ h1.1 fun l hl=>sh rfl l (rV (o:=⟨d,.fieldAddr t x i,ty,pos,aft,g⟩) (x:=x) (by simp[Op.operands]) hl)];rfl
def qZ (o:Oper):Bool:=yT o||qL o
theorem pX {o:Oper}(h:qZ o=false):yT o=false∧qL o=false:=by
 unfold qZ at h;rw[Bool.or_eq_false_iff] at h;exact h
def aD (ops:Array Oper):Bool:=ops.toList.zipIdx.all fun p=>ops.toList.zipIdx.all fun q=>Nat.beq p.2 q.2||(!qZ p.1||(!qZ q.1||(vS (Region.before ops) p.2 q.2||vS (Region.before ops) q.2 p.2)))
theorem qK5 {ops:Array Oper}(h:aD ops=true)(k j:Nat)(q o:Oper)(hkj:k≠j)(hk:ops[k]?=some q)(ho:ops[j]?=some o)(hq:qZ q=true)(he:qZ o=true):vS (Region.before ops) k j=true∨vS (Region.before ops) j k=true:=by
 unfold aD at h;have h1:=zP1.1 h (q,k) (zSI.2 (by simpa using hk));have h2:=zP1.1 h1 (o,j) (zSI.2 (by simpa using ho));simp only[hq,he,zT2,zS9,zQ2] at h2;rcases h2 with h | h | h
 ·exact absurd (zPZ h) hkj
 ·exact .inl h
 ·exact .inr h
def q3Z (ops:List Oper)(j k:Nat):Bool:=match ops[j]?,ops[k]? with
 | some o,some q=>(match o.op,q.op with
   | .lookup t (.tmp a) (.tmp c) false,.mapEntry t' (.tmp a') (.tmp c')=>Nat.beq t t'&&Nat.beq a a'&&Nat.beq c c'&&Nat.blt j k&&ops.zipIdx.all fun p=>!(Nat.ble j p.2)||!(Nat.blt p.2 k)||(match p.1.dst with | some d=>!(Nat.beq d a)&&!(Nat.beq d c) | none=>true)
   | _,_=>false)
 | _,_=>false
structure DB where
 b:Array Nat
 x:Nat->Nat->Bool
def dBo (ops:Array Oper):DB:=⟨Region.before ops,q3Z ops.toList⟩
noncomputable def mV (b:DB)(zGR:List PV)(E F:List (Nat×List Nat))(N:List (Nat×Nat))(V:List (Nat×PV)):Bool :=
 (F.all fun f=>E.all fun e=>qRR b.b e.1 f.1||(b.x f.1 e.1||f.2.all fun l=>!e.2.contains l))&&N.all fun n=>yB n.2 zGR&&V.all fun v=>Nat.beq v.1 n.1||(vS b.b n.1 v.1||noK n.2 v.2)
def qDC (c x:Bool)(t:PT):PT:=cond c (.chk x t) t
noncomputable def qJ6 (P:Program)(tab:uZ)(nm:Nm)(ds:List (Option Tmp))(b:DB)(zGR:List PV):Nat->List Oper->List PV->PHp->List (Nat×List Nat)->List (Nat×List Nat)->List (Nat×Nat)->List (Nat×PV)->PT
 | i,[],env,ph,E,F,N,V=>.chk (mV b zGR E F N V) (.ret env ph)
 | i,o::l,env,ph,E,F,N,V=>vO (vK ds o env)
    (match zL P tab (qH nm o.dst) o env ph with
     | .ok v ph'=>qDC (needs o.op) (inP nm (qH nm o.dst)&&aC (qH nm o.dst) ph) (qJ6 P tab nm ds b zGR (i+1) l (yQ env o.dst v) ph' (cond (qZ o) ((i,wlT nm o env)::E) E) (cond (qZ o) F ((i,dlT o env)::F)) (cond (needs o.op) ((i,qH nm o.dst)::N) N) ((i,v)::V))
     | _=>.fail)
    (qJ6 P tab nm ds b zGR (i+1) l (yQ env o.dst (.tup [])) ph E F N ((i,.tup [])::V)) .fail
structure TrI (P:Program) (tab:uZ) (nm:Nm) (ds:List (Option Tmp)) (b:DB) (ops:List Oper) (zGR:List PV) (ph0:PHp) (En:Nat->List PV) (Hs:Nat->PHp) (V:Nat->PV) (j:Nat) (E F:List (Nat×List Nat)) (N:List (Nat×Nat)) (W:List (Nat×PV)):Prop where
 e0:En 0=zGR
 h0:Hs 0=ph0
 step:∀ i o,ops[i]?=some o->En (i+1)=yQ (En i) o.dst (V i)∧(j+i,V i)∈W ∧
  ((vK ds o (En i)=some true∧zL P tab (qH nm o.dst) o (En i) (Hs i)=.ok (V i) (Hs (i+1))∧(needs o.op=true->inP nm (qH nm o.dst)=true∧aC (qH nm o.dst) (Hs i)=true∧(j+i,qH nm o.dst)∈N) ∧
     (qZ o=true->(j+i,wlT nm o (En i))∈E)∧(qZ o=false->(j+i,dlT o (En i))∈F)) ∨
    (vK ds o (En i)=some false∧V i=.tup []∧Hs (i+1)=Hs i))
theorem qHR {Q:List PV->PHp->Prop}{ds:List (Option Tmp)}{b:DB}{zGR:List PV}:∀ (l:List Oper) (j:Nat) (env:List PV) (ph:PHp) (E F:List (Nat×List Nat)) (N:List (Nat×Nat)) (W:List (Nat×PV)),
 (qJ6 P tab nm ds b zGR j l env ph E F N W).holds P G Q->∃ En Hs V E' F' N' W',TrI P tab nm ds b l env ph En Hs V j E' F' N' W'∧(∀ x∈E,x∈E')∧(∀ x∈F,x∈F')∧(∀ x∈N,x∈N')∧(∀ x∈W,x∈W')∧mV b zGR E' F' N' W'=true∧Q (En l.length) (Hs l.length)
 | [],j,env,ph,E,F,N,W,h=>⟨fun _=>env,fun _=>ph,fun _=>.unk,E,F,N,W,⟨rfl,rfl,fun i o h=>by simp at h⟩,fun _ h=>h,fun _ h=>h,fun _ h=>h,fun _ h=>h,h.1,h.2⟩
 | o::l,j,env,ph,E,F,N,W,h=>by
   unfold qJ6 vO at h;split at h
   ·rename_i hw;split at h
    ·rename_i v ph' hx
     have hh:(needs o.op=true->inP nm (qH nm o.dst)=true∧aC (qH nm o.dst) ph=true)∧(qJ6 P tab nm ds b zGR (j+1) l (yQ env o.dst v) ph' (cond (qZ o) ((j,wlT nm o env)::E) E) (cond (qZ o) F ((j,dlT o env)::F)) (cond (needs o.op) ((j,qH nm o.dst)::N) N) ((j,v)::W)).holds P G Q:=by
      unfold qDC at h
      cases hn:needs o.op with
      | true =>
        rw[hn] at h;obtain⟨hc,h⟩:=h;rw[zPY] at hc;exact⟨fun _=>hc,h⟩
      | false=>rw[hn] at h;exact⟨fun h=>by (cases h),h⟩
     obtain⟨hc,h⟩:=hh;obtain⟨En,Hs,V,E',F',N',W',t,a1,a2,a3,a4,a5,a6⟩:=qHR l (j+1) _ _ _ _ _ _ h;refine⟨fun i=>Nat.casesOn i env fun i=>En i,fun i=>Nat.casesOn i ph fun i=>Hs i,fun i=>Nat.casesOn i v fun i=>V i,E',F',N',W',⟨rfl,rfl,fun i p hi=>?_⟩,fun x hx=>a1 x ?_,fun x hx=>a2 x ?_,fun x hx=>a3 x ?_,fun x hx=>a4 x (zP6 _ hx),a5,a6⟩
     ·cases i with
      | zero =>
        simp only[zQV,zP7] at hi;subst hi;have e0:Hs 0=ph':=t.h0;have hx0:zL P tab (qH nm o.dst) o env ph=.ok v (Hs 0):=by rw[e0];exact hx
        refine⟨t.e0,a4 _ zQB,.inl ⟨hw,hx0,fun hn=>?_,fun he=>a1 _ (by rw[he];exact zQB),fun he=>a2 _ (by rw[he];exact zQB)⟩⟩;have hc:=hc hn;exact⟨hc.1,hc.2,a3 _ (by rw[hn];exact zQB)⟩
      | succ i =>
        have:=t.step i p (by simpa using hi);rw[show j+1+i=j+(i+1) by omega] at this;exact this
     ·cases qZ o
      ·exact hx
      ·exact zP6 _ hx
     ·cases qZ o
      ·exact zP6 _ hx
      ·exact hx
     ·cases needs o.op
      ·exact hx
      ·exact zP6 _ hx
    ·exact h.elim
   ·rename_i hw;obtain⟨En,Hs,V,E',F',N',W',t,a1,a2,a3,a4,a5,a6⟩:=qHR l (j+1) _ _ _ _ _ _ h;refine⟨fun i=>Nat.casesOn i env fun i=>En i,fun i=>Nat.casesOn i ph fun i=>Hs i,fun i=>Nat.casesOn i (.tup []) fun i=>V i,E',F',N',W',⟨rfl,rfl,fun i p hi=>?_⟩,a1,a2,a3,fun x hx=>a4 x (zP6 _ hx),a5,a6⟩
    cases i with
    | zero =>
      simp only[zQV,zP7] at hi;subst hi;exact⟨t.e0,a4 _ zQB,.inr ⟨hw,rfl,t.h0⟩⟩
    | succ i =>
      have:=t.step i p (by simpa using hi);rw[show j+1+i=j+(i+1) by omega] at this;exact this
   ·exact h.elim
def nG (P:Program)(tab:uZ)(o:Oper)(env:List PV)(a b:PHp):Prop:=∀ (k:Nat) (v:PV),zL P tab k o env a=.ok v a ↔ zL P tab k o env b=.ok v b
theorem nG.refl {o:Oper}{env:List PV}(a:PHp):nG P tab o env a a:=fun _ _=>Iff.rfl
theorem nG.symm {o:Oper}{env:List PV}{a b:PHp}(h:nG P tab o env a b):nG P tab o env b a:=fun k v=>(h k v).symm
theorem nG.trans {o:Oper}{env:List PV}{a b c:PHp}(h:nG P tab o env a b)(g:nG P tab o env b c):nG P tab o env a c:=fun k v=>(h k v).trans (g k v)
theorem nG.tk {o:Oper}{env:List PV}{a b:PHp}(hf:yT o=false)(ha:qL o=false)(h:∀ l∈dlT o env,qPM l b a):nG P tab o env a b:=fun k v =>
 ⟨fun e=>(pF hf ha e).2 k b h,fun e=>(pF hf ha e).2 k a fun l hl=>(h l hl).symm⟩
theorem nG.look {o q:Oper}{env env':List PV}{a b:PHp}{t:TypeId}{m c:Tmp}{kq:Nat}{y:PV}(ho:o.op=.lookup t (.tmp m) (.tmp c) false)(hq:q.op=.mapEntry t (.tmp m) (.tmp c))(h1:qJ env' (.tmp m)=qJ env (.tmp m))(h2:qJ env' (.tmp c)=qJ env (.tmp c))(h:zL P tab kq q env' a=.ok y b):nG P tab o env a b:=by
 have hc:∀ {o:Oper},(∀ c,o.op≠.call c)->¬ ∃ f args ts,o.op=.call ⟨.value f,args,ts⟩:=fun hn ⟨f,args,ts,e⟩=>hn _ e
 have h3:kK P t (qJ env' (.tmp m)) (qJ env' (.tmp c)) a=some (y,b):=by
  have:=w9 ((xD (hc fun c e=>by rw[hq] at e;cases e) _ _ _).symm.trans h);unfold sO at this;rw[hq] at this;exact this
 rw[h1,h2] at h3;have h4:=qEF h3;intro k v;rw[xD (hc fun c e=>by rw[ho] at e;cases e),xD (hc fun c e=>by rw[ho] at e;cases e)];unfold sO;rw[ho];simp only[pp1,h4]
 cases kU P t (qJ env (.tmp m)) (qJ env (.tmp c)) false a with
 | none=>exact⟨fun e=>by (cases e),fun e=>by (cases e)⟩
 | some x=>exact⟨fun e=>by cases e;rfl,fun e=>by cases e;rfl⟩
end Go.Idl
