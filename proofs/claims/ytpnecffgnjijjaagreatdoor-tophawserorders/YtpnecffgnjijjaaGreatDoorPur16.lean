/- Regions that draw their order, on values without a heap. Conditions: none. -/
import Derived.Test.YtpnecffgnjijjaaGreatDoorPurB
set_option linter.all false
namespace Go.Idl
variable [Gc]
variable {P:Program}{G:Nat->Bool}{nat:xA}{tab:uQ}{nm:Nm}
noncomputable def pW (P:Program)(tab:uQ)(g:FuncId)(as:List PV)(ph:PHp):PE:=match fzA P as ph with
 | some (zGF,_)=>(match tab g (rtA P g zGF) with
   | some r=>cond (j4 r||as.all qHU) (.ok r ph) .fail
   | none=>.fail)
 | none=>.fail
noncomputable def zL (P:Program)(tab:uQ)(k:Nat)(o:Oper)(env:List PV)(ph:PHp):PE:=match o.op with
 | .call ⟨.value f,args,_⟩=>(match target (qJ env f) (args.toList.map (qJ env)) with
   | some (g,as)=>pW P tab g as ph
   | none=>.fail)
 | _=>peO (sS P o env k ph)
theorem qQR {n:Nat}:∀ {cs:List PV} {ph:PHp},cs.all qSS=true->∃ ys,sN (fz1 P n) cs ph=some (ys,ph)
 | [],ph,_=>⟨[],rfl⟩
 | c::cs,ph,h=>by
   simp only[zOD,zMY] at h;obtain⟨ys,hy⟩:=qQR (n:=n) (ph:=ph) h.2
   cases c with
   | f x =>
     have e:fz1 P n ph (.f x)=some (x,ph):=by cases n <;> rfl
     exact⟨x::ys,by unfold sN;rw[e];simp only[hy]⟩
   | _=>exact absurd h.1 zPT
theorem qXX:∀ {as:List PV} {ph:PHp},as.all qHU=true->∃ ys,fzA P as ph=some (ys,ph)
 | [],ph,_=>⟨[],rfl⟩
 | a::as,ph,h=>by
   simp only[zOD,zMY] at h;obtain⟨ys,hy⟩:=qXX (ph:=ph) h.2
   have:∃ y,fzP P ph a=some (y,ph):=by
    cases a with
    | f x=>exact⟨_,rfl⟩
    | agg cs =>
      obtain⟨zs,hz⟩:=qQR (P:=P) (n:=4) (ph:=ph) (cs:=cs) h.1;exact⟨_,by unfold fzP;simp only[hz];rfl⟩
    | _=>exact absurd h.1 zPT
   obtain⟨y,h1⟩:=this;exact⟨y::ys,by unfold fzA;simp only[h1,hy]⟩
theorem qKT {inl:FuncId->Bool}{fv:PV}{args as:List PV}{g:FuncId}{ph:PHp}(h:target fv args=some (g,as)):oV P tab inl fv args ph=dV P tab inl g as ph:=by
 unfold target at h;split at h
 ·rename_i g' a c;unfold oV
  cases hc:(a.toList.isEmpty&&c.toList.isEmpty) with
  | true=>rw[hc] at h;cases h;simp only[hc,cond_true]
  | false=>rw[hc] at h;cases h
 ·cases h;rfl
 ·cases h
theorem qZ8 {r:Option (PV×PHp)}{v:PV}{ph':PHp}(h:peO r=.ok v ph'):r=some (v,ph'):=by
 unfold peO at h;split at h
 ·cases h;rfl
 ·cases h
theorem qK7 {k:Nat}{o:Oper}{env:List PV}{ph ph':PHp}{v:PV}(h:zL P tab k o env ph=.ok v ph'):bF P tab (fun _=>false) k o env ph=.ok v ph':=by
 by_cases hc:∃ f args ts,o.op=.call ⟨.value f,args,ts⟩
 ·obtain⟨f,args,ts,ho⟩:=hc;unfold zL at h;unfold bF;rw[ho] at h ⊢;simp only at h ⊢;split at h
  ·rename_i g as ht;rw[qKT ht];show fU P tab g as ph=_;unfold pW at h;unfold fU;split at h
   ·rename_i zGF ph1 hf;split at h
    ·rename_i r hr
     cases hp:j4 r with
     | true=>rw[hp] at h;rw[hf];simp only[hr,hp];exact h
     | false =>
       rw[hp] at h
       cases ha:as.all qHU with
       | false=>rw[ha] at h;cases h
       | true =>
         rw[ha] at h;obtain⟨ys,hy⟩:=qXX (P:=P) (ph:=ph) ha;rw[hy] at hf;cases hf;rw[hy];simp only[hr,hp];exact h
    ·cases h
   ·cases h
  ·cases h
 ·unfold zL at h;unfold bF;split
  ·rename_i f args ts ho;exact absurd ⟨f,args,ts,ho⟩ hc
  ·split at h
   ·rename_i f args ts ho;exact absurd ⟨f,args,ts,ho⟩ hc
   ·rw[qWU (qZ8 h)];rfl
theorem aP {k:Nat}{o:Oper}{env env':List PV}{ph:PHp}(h:∀ x∈o.op.operands,qJ env x=qJ env' x):zL P tab k o env ph=zL P tab k o env' ph:=by
 unfold zL;split
 ·rename_i f args ts hop;rw[hop] at h;have hf:qJ env f=qJ env' f:=h f (by simp[Op.operands,Call.operands]);have ha:args.toList.map (qJ env)=args.toList.map (qJ env'):=zOK fun x hx=>h x (by simp[Op.operands,Call.operands,zN9,hx])
  rw[hf,ha]
 ·rw[qSM h]
theorem qB8 {f:Operand}{args:Array Operand}{ts:Array TypeId}{k:Nat}{o:Oper}{env:List PV}{ph ph':PHp}{v:PV}(ho:o.op=.call ⟨.value f,args,ts⟩)(h:zL P tab k o env ph=.ok v ph'):ph'=ph:=by
 unfold zL at h;rw[ho] at h;simp only at h;split at h
 ·unfold pW at h;split at h
  ·split at h
   ·rename_i r hr
    cases hc:(j4 r||_) with
    | true=>rw[hc] at h;cases h;rfl
    | false=>rw[hc] at h;cases h
   ·cases h
  ·cases h
 ·cases h
theorem wE {r:Option (PV×PHp)}{v:PV}{ph':PHp}(h:peO r=.ok v ph'):r=some (v,ph'):=by
 unfold peO at h;split at h
 ·cases h;rfl
 ·cases h
theorem qN9 {o:Oper}{env:List PV}{k:Nat}{ph ph1:PHp}{v:PV}(hf:yR o=false)(ha:qL o=false)(h:zL P tab k o env ph=.ok v ph1) :
 ph1=ph∧∀ (k':Nat) (ph':PHp),(∀ l∈dlO o env,qA l ph'=qA l ph)->zL P tab k' o env ph'=.ok v ph':=by
 by_cases hc:∃ f args ts,o.op=.call ⟨.value f,args,ts⟩
 ·obtain⟨f,args,ts,ho⟩:=hc
  rcases qGD hf ha with h1 | h1 <;> (unfold xI at h1;rw[ho] at h1;cases h1)
 ·have e:∀ k ph,zL P tab k o env ph=peO (sS P o env k ph):=fun k ph=>by
   unfold zL;split
   ·rename_i f args ts ho;exact absurd ⟨f,args,ts,ho⟩ hc
   ·rfl
  rw[e] at h;obtain⟨h1,h2⟩:=zA2 hf ha (wE h);exact⟨h1,fun k' ph' hd=>by rw[e,h2 k' ph' hd];rfl⟩
def shp (k:Nat)(ph:PHp):Option (TypeId×Nat):=(qA k ph).map fun o=>(o.el,o.cs.length)
def qOF (l:Nat)(ph' ph:PHp):Prop:=(∀ k,l=2*k->qA k ph'=qA k ph)∧∀ k,l=2*k+1->shp k ph'=shp k ph
theorem qOF.refl (l:Nat)(ph:PHp):qOF l ph ph:=⟨fun _ _=>rfl,fun _ _=>rfl⟩
theorem qOF.symm {l:Nat}{a b:PHp}(h:qOF l a b):qOF l b a:=⟨fun k e=>(h.1 k e).symm,fun k e=>(h.2 k e).symm⟩
theorem qOF.trans {l:Nat}{a b c:PHp}(h:qOF l a b)(g:qOF l b c):qOF l a c:=⟨fun k e=>(h.1 k e).trans (g.1 k e),fun k e=>(h.2 k e).trans (g.2 k e)⟩
theorem qOF.of {l:Nat}{a b:PHp}(h:∀ k,l=2*k∨l=2*k+1->qA k a=qA k b):qOF l a b:=⟨fun k e=>h k (.inl e),fun k e=>by unfold shp;rw[h k (.inr e)]⟩
noncomputable def dlT (o:Oper)(env:List PV):List Nat:=match o.op with
 | .indexAddr _ _ _=>(dlO o env).map fun k=>2*k+1
 | .fieldAddr _ _ _=>(dlO o env).map fun k=>2*k+1
 | .move _=>[]
 | .assign _=>[]
 | _=>(dlO o env).map fun k=>2*k
noncomputable def wlT (nm:Nm)(o:Oper)(env:List PV):List Nat:=match o.op with
 | .call ⟨.value _,_,_⟩=>[]
 | .store _ _ _=>(dlO o env).map fun k=>2*k
 | _=>(qH nm o.dst::dlO o env).flatMap fun k=>[2*k,2*k+1]
theorem q4G {k tt:Nat}{ph ph':PHp}(h:shp k ph'=shp k ph):live? k tt ph'=live? k tt ph:=by
 unfold live?;unfold shp at h
 cases h1:qA k ph with
 | none =>
   rw[h1] at h;simp only[zRA,Option.map_eq_none_iff] at h;rw[h]
 | some a =>
   rw[h1] at h;simp only[zNE] at h;obtain⟨b,h2,h3⟩:=zM8.1 h;injection h3 with h4 h5;rw[h2];simp only[h5]
theorem qJI {t:TypeId}{a x:PV}{i:Nat}{ph ph':PHp}(h:zX P t a i ph=some x)(hd:∀ l∈dl1 a,shp l ph'=shp l ph):zX P t a i ph'=some x:=by
 cases a <;> first | exact h | skip
 rename_i k tt off;have:=q4G (tt:=tt) (hd k (by simp[dl1]));unfold zX at h ⊢;simp only[this];exact h
theorem qKN {t:TypeId}{a ix x:PV}{ph ph':PHp}(h:qZ P t a ix ph=some x)(hd:∀ l∈dl1 a,shp l ph'=shp l ph):qZ P t a ix ph'=some x:=by
 unfold qZ at h ⊢;split at h
 ·split at h
  ·exact h
  ·rename_i k tt o n;have hs:=hd k (by simp[dl1]);unfold shp at hs;split at h
   ·rename_i el' ob h1 h2;rw[h2] at hs;simp only[zNE] at hs;obtain⟨ob',h3,h4⟩:=zM8.1 hs;injection h4 with h5 h6;simp only[h1,h3,h5,h6];exact h
   ·cases h
  ·rename_i k tt off;rw[q4G (tt:=tt) (hd k (by simp[dl1]))];exact h
  ·exact h
  ·cases h
 ·cases h
theorem q0W {t:TypeId}{a x:PV}{ph ph':PHp}(h:jB P t a x ph=some ph'):(∀ l,l ∉ dl1 a->qA l ph'=qA l ph)∧∀ l,shp l ph'=shp l ph:=by
 unfold jB at h;split at h
 ·rename_i k tt off;split at h
  ·rename_i ob hob;split at h
   ·rename_i n hn
    replace h:=(gH h).2
    cases hc:(Nat.beq tt ob.cs.length&&(Nat.beq n (zC x).length&&(Nat.ble (off+n) ob.cs.length&&(pnt x&&(zC x).all fZ)))) with
    | true =>
      rw[hc] at h;cases h;rw[zMY,zMY,zMY] at hc;have h1:n=(zC x).length:=zMZ hc.2.1;have h2:off+n<=ob.cs.length:=zM9 hc.2.2.1;refine⟨fun l hl=>by rw[zA,if_neg (fun e=>hl (by rw[e.1];simp[dl1]))],fun l=>?_⟩;unfold shp;rw[zA];split
      ·rename_i e;rw[e.1,hob];simp only[zNE];rw[cZ (by omega)]
      ·rfl
    | false=>rw[hc] at h;cases h
   ·cases h
  ·cases h
 ·cases h
theorem kL {o:Oper}(hc:¬ ∃ f args ts,o.op=.call ⟨.value f,args,ts⟩)(k:Nat)(env:List PV)(ph:PHp):zL P tab k o env ph=peO (sS P o env k ph):=by
 unfold zL;split
 ·rename_i f args ts ho;exact absurd ⟨f,args,ts,ho⟩ hc
 ·rfl
theorem qV2 {o:Oper}{env:List PV}{ph ph':PHp}{v:PV}(h:zL P tab (qH nm o.dst) o env ph=.ok v ph'){l:Nat}(hl:l ∉ wlT nm o env):qOF l ph' ph:=by
 by_cases hc:∃ f args ts,o.op=.call ⟨.value f,args,ts⟩
 ·obtain⟨f,args,ts,ho⟩:=hc;rw[qB8 ho h];exact .refl _ _
 ·by_cases hst:∃ t a x,o.op=.store t a x
  ·obtain⟨t,a,x,ho⟩:=hst;have h1:=wE ((kL hc _ _ _).symm.trans h);obtain⟨d,op,ty,pos,aft,g⟩:=o;cases ho;simp only[sS] at h1;unfold ppS at h1;split at h1
   ·rename_i ph1 hs;cases h1;obtain⟨a1,a2⟩:=q0W hs;refine⟨fun k e=>a1 k fun hk=>hl ?_,fun k _=>a2 k⟩;exact zNO.2 ⟨k,pV (o:=⟨d,.store t a x,ty,pos,aft,g⟩) (by simp[Op.operands]) hk,e.symm⟩
   ·cases h1
  ·have e2:wlT nm o env=(qH nm o.dst::dlO o env).flatMap fun k=>[2*k,2*k+1]:=by
    unfold wlT;split
    ·rename_i f args ts ho;exact absurd ⟨f,args,ts,ho⟩ hc
    ·rename_i t a x ho;exact absurd ⟨t,a,x,ho⟩ hst
    ·rfl
   have h1:=wE ((kL hc _ _ _).symm.trans h);refine .of fun k hk=>?_
   have hn:k ∉ qH nm o.dst::dlO o env:=fun hm=>hl (by
    rw[e2];refine List.mem_flatMap.2 ⟨k,hm,?_⟩
    rcases hk with e | e <;> simp[e])
   simp only[zNF,not_or] at hn;exact zAW h1 hn.1 hn.2
theorem oM {o:Oper}{env:List PV}{k:Nat}{ph ph1:PHp}{v:PV}(hf:yR o=false)(ha:qL o=false)(h:zL P tab k o env ph=.ok v ph1) :
 ph1=ph∧∀ (k':Nat) (ph':PHp),(∀ l∈dlT o env,qOF l ph' ph)->zL P tab k' o env ph'=.ok v ph':=by
 obtain⟨e1,e2⟩:=qN9 hf ha h;refine⟨e1,fun k' ph' hd=>?_⟩;subst e1;have gen:dlT o env=(dlO o env).map (fun k=>2*k)->zL P tab k' o env ph'=.ok v ph':=fun hg=>e2 k' ph' fun l hl=>(hd (2*l) (by rw[hg];exact zNO.2 ⟨l,hl,rfl⟩)).1 l rfl
 have sh:dlT o env=(dlO o env).map (fun k=>2*k+1)->∀ l∈dlO o env,shp l ph'=shp l ph1:=fun hg l hl=>(hd (2*l+1) (by rw[hg];exact zNO.2 ⟨l,hl,rfl⟩)).2 l rfl
 obtain⟨d,op,ty,pos,aft,g⟩:=o
 cases op <;> first | exact gen rfl | skip
 case move x =>
  have h1:=wE (r:=some (qJ env x,ph1)) h;cases h1;rfl
 case assign x =>
  have h1:=wE (r:=some (qJ env x,ph1)) h;cases h1;rfl
 case indexAddr t x ix =>
  have h1:=zY (wE h);show peO (pp1 ph' (qZ P t (qJ env x) (qJ env ix) ph'))=_;rw[qKN h1.1 fun l hl=>sh rfl l (pV (o:=⟨d,.indexAddr t x ix,ty,pos,aft,g⟩) (x:=x) (by simp[Op.operands]) hl)];rfl
 case fieldAddr t x i =>
  have h1:=zY (wE h);show peO (pp1 ph' (zX P t (qJ env x) i ph'))=_;rw[qJI h1.1 fun l hl=>sh rfl l (pV (o:=⟨d,.fieldAddr t x i,ty,pos,aft,g⟩) (x:=x) (by simp[Op.operands]) hl)];rfl
def qY (o:Oper):Bool:=yR o||qL o
theorem mV {o:Oper}(h:qY o=false):yR o=false∧qL o=false:=by
 unfold qY at h;rw[zPM] at h;exact h
def fV (ops:Array Oper):Bool:=ops.toList.zipIdx.all fun p=>ops.toList.zipIdx.all fun q=>Nat.beq p.2 q.2||(!qY p.1||(!qY q.1||(vH (Region.before ops) p.2 q.2||vH (Region.before ops) q.2 p.2)))
theorem qHX {ops:Array Oper}(h:fV ops=true)(k j:Nat)(q o:Oper)(hkj:k≠j)(hk:ops[k]?=some q)(ho:ops[j]?=some o)(hq:qY q=true)(he:qY o=true):vH (Region.before ops) k j=true∨vH (Region.before ops) j k=true:=by
 unfold fV at h;have h1:=zM1.1 h (q,k) (zPJ.2 (by simpa using hk));have h2:=zM1.1 h1 (o,j) (zPJ.2 (by simpa using ho));simp only[hq,he,zQY,zPW,zN1] at h2;rcases h2 with h | h | h
 ·exact absurd (zMZ h) hkj
 ·exact .inl h
 ·exact .inr h
def qZU (ops:List Oper)(j k:Nat):Bool:=match ops[j]?,ops[k]? with
 | some o,some q=>(match o.op,q.op with
   | .lookup t (.tmp a) (.tmp c) false,.mapEntry t' (.tmp a') (.tmp c')=>Nat.beq t t'&&Nat.beq a a'&&Nat.beq c c'&&Nat.blt j k&&ops.zipIdx.all fun p=>!(Nat.ble j p.2)||!(Nat.blt p.2 k)||(match p.1.dst with | some d=>!(Nat.beq d a)&&!(Nat.beq d c) | none=>true)
   | _,_=>false)
 | _,_=>false
structure DB where
 b:Array Nat
 x:Nat->Nat->Bool
def dBo (ops:Array Oper):DB:=⟨Region.before ops,qZU ops.toList⟩
noncomputable def mD (b:DB)(zFE:List PV)(E F:List (Nat×List Nat))(N:List (Nat×Nat))(V:List (Nat×PV)):Bool :=
 (F.all fun f=>E.all fun e=>qPJ b.b e.1 f.1||(b.x f.1 e.1||f.2.all fun l=>!e.2.contains l))&&N.all fun n=>zZ n.2 zFE&&V.all fun v=>Nat.beq v.1 n.1||(vH b.b n.1 v.1||noK n.2 v.2)
def qBL (c x:Bool)(t:PT):PT:=cond c (.chk x t) t
noncomputable def qK1 (P:Program)(tab:uQ)(nm:Nm)(ds:List (Option Tmp))(b:DB)(zFE:List PV):Nat->List Oper->List PV->PHp->List (Nat×List Nat)->List (Nat×List Nat)->List (Nat×Nat)->List (Nat×PV)->PT
 | i,[],env,ph,E,F,N,V=>.chk (mD b zFE E F N V) (.ret env ph)
 | i,o::l,env,ph,E,F,N,V=>vB (j5 ds o env)
    (match zL P tab (qH nm o.dst) o env ph with
     | .ok v ph'=>qBL (needs o.op) (inP nm (qH nm o.dst)&&gZ (qH nm o.dst) ph) (qK1 P tab nm ds b zFE (i+1) l (yL env o.dst v) ph' (cond (qY o) ((i,wlT nm o env)::E) E) (cond (qY o) F ((i,dlT o env)::F)) (cond (needs o.op) ((i,qH nm o.dst)::N) N) ((i,v)::V))
     | _=>.fail)
    (qK1 P tab nm ds b zFE (i+1) l (yL env o.dst (.tup [])) ph E F N ((i,.tup [])::V)) .fail
structure TrI (P:Program) (tab:uQ) (nm:Nm) (ds:List (Option Tmp)) (b:DB) (ops:List Oper) (zFE:List PV) (ph0:PHp) (En:Nat->List PV) (Hs:Nat->PHp) (V:Nat->PV) (j:Nat) (E F:List (Nat×List Nat)) (N:List (Nat×Nat)) (W:List (Nat×PV)):Prop where
 e0:En 0=zFE
 h0:Hs 0=ph0
 step:∀ i o,ops[i]?=some o->En (i+1)=yL (En i) o.dst (V i)∧(j+i,V i)∈W ∧
  ((j5 ds o (En i)=some true∧zL P tab (qH nm o.dst) o (En i) (Hs i)=.ok (V i) (Hs (i+1))∧(needs o.op=true->inP nm (qH nm o.dst)=true∧gZ (qH nm o.dst) (Hs i)=true∧(j+i,qH nm o.dst)∈N) ∧
     (qY o=true->(j+i,wlT nm o (En i))∈E)∧(qY o=false->(j+i,dlT o (En i))∈F)) ∨
    (j5 ds o (En i)=some false∧V i=.tup []∧Hs (i+1)=Hs i))
theorem qGA {Q:List PV->PHp->Prop}{ds:List (Option Tmp)}{b:DB}{zFE:List PV}:∀ (l:List Oper) (j:Nat) (env:List PV) (ph:PHp) (E F:List (Nat×List Nat)) (N:List (Nat×Nat)) (W:List (Nat×PV)),
 (qK1 P tab nm ds b zFE j l env ph E F N W).holds P G Q->∃ En Hs V E' F' N' W',TrI P tab nm ds b l env ph En Hs V j E' F' N' W'∧(∀ x∈E,x∈E')∧(∀ x∈F,x∈F')∧(∀ x∈N,x∈N')∧(∀ x∈W,x∈W')∧mD b zFE E' F' N' W'=true∧Q (En l.length) (Hs l.length)
 | [],j,env,ph,E,F,N,W,h=>⟨fun _=>env,fun _=>ph,fun _=>.unk,E,F,N,W,⟨rfl,rfl,fun i o h=>by simp at h⟩,fun _ h=>h,fun _ h=>h,fun _ h=>h,fun _ h=>h,h.1,h.2⟩
 | o::l,j,env,ph,E,F,N,W,h=>by
   unfold qK1 vB at h;split at h
   ·rename_i hw;split at h
    ·rename_i v ph' hx
     have hh:(needs o.op=true->inP nm (qH nm o.dst)=true∧gZ (qH nm o.dst) ph=true)∧(qK1 P tab nm ds b zFE (j+1) l (yL env o.dst v) ph' (cond (qY o) ((j,wlT nm o env)::E) E) (cond (qY o) F ((j,dlT o env)::F)) (cond (needs o.op) ((j,qH nm o.dst)::N) N) ((j,v)::W)).holds P G Q:=by
      unfold qBL at h
      cases hn:needs o.op with
      | true =>
        rw[hn] at h;obtain⟨hc,h⟩:=h;rw[zMY] at hc;exact⟨fun _=>hc,h⟩
      | false=>rw[hn] at h;exact⟨fun h=>by (cases h),h⟩
     obtain⟨hc,h⟩:=hh;obtain⟨En,Hs,V,E',F',N',W',t,a1,a2,a3,a4,a5,a6⟩:=qGA l (j+1) _ _ _ _ _ _ h;refine⟨fun i=>Nat.casesOn i env fun i=>En i,fun i=>Nat.casesOn i ph fun i=>Hs i,fun i=>Nat.casesOn i v fun i=>V i,E',F',N',W',⟨rfl,rfl,fun i p hi=>?_⟩,fun x hx=>a1 x ?_,fun x hx=>a2 x ?_,fun x hx=>a3 x ?_,fun x hx=>a4 x (zM3 _ hx),a5,a6⟩
     ·cases i with
      | zero =>
        simp only[zNS,zM7] at hi;subst hi;have e0:Hs 0=ph':=t.h0;have hx0:zL P tab (qH nm o.dst) o env ph=.ok v (Hs 0):=by rw[e0];exact hx
        refine⟨t.e0,a4 _ zM5,.inl ⟨hw,hx0,fun hn=>?_,fun he=>a1 _ (by rw[he];exact zM5),fun he=>a2 _ (by rw[he];exact zM5)⟩⟩;have hc:=hc hn;exact⟨hc.1,hc.2,a3 _ (by rw[hn];exact zM5)⟩
      | succ i =>
        have:=t.step i p (by simpa using hi);rw[show j+1+i=j+(i+1) by omega] at this;exact this
     ·cases qY o
      ·exact hx
      ·exact zM3 _ hx
     ·cases qY o
      ·exact zM3 _ hx
      ·exact hx
     ·cases needs o.op
      ·exact hx
      ·exact zM3 _ hx
    ·exact h.elim
   ·rename_i hw;obtain⟨En,Hs,V,E',F',N',W',t,a1,a2,a3,a4,a5,a6⟩:=qGA l (j+1) _ _ _ _ _ _ h;refine⟨fun i=>Nat.casesOn i env fun i=>En i,fun i=>Nat.casesOn i ph fun i=>Hs i,fun i=>Nat.casesOn i (.tup []) fun i=>V i,E',F',N',W',⟨rfl,rfl,fun i p hi=>?_⟩,a1,a2,a3,fun x hx=>a4 x (zM3 _ hx),a5,a6⟩
    cases i with
    | zero =>
      simp only[zNS,zM7] at hi;subst hi;exact⟨t.e0,a4 _ zM5,.inr ⟨hw,rfl,t.h0⟩⟩
    | succ i =>
      have:=t.step i p (by simpa using hi);rw[show j+1+i=j+(i+1) by omega] at this;exact this
   ·exact h.elim
def sI (P:Program)(tab:uQ)(o:Oper)(env:List PV)(a b:PHp):Prop:=∀ (k:Nat) (v:PV),zL P tab k o env a=.ok v a ↔ zL P tab k o env b=.ok v b
theorem sI.refl {o:Oper}{env:List PV}(a:PHp):sI P tab o env a a:=fun _ _=>Iff.rfl
theorem sI.trans {o:Oper}{env:List PV}{a b c:PHp}(h:sI P tab o env a b)(g:sI P tab o env b c):sI P tab o env a c:=fun k v=>(h k v).trans (g k v)
theorem sI.tk {o:Oper}{env:List PV}{a b:PHp}(hf:yR o=false)(ha:qL o=false)(h:∀ l∈dlT o env,qOF l b a):sI P tab o env a b:=fun k v =>
 ⟨fun e=>(oM hf ha e).2 k b h,fun e=>(oM hf ha e).2 k a fun l hl=>(h l hl).symm⟩
theorem sI.look {o q:Oper}{env env':List PV}{a b:PHp}{t:TypeId}{m c:Tmp}{kq:Nat}{y:PV}(ho:o.op=.lookup t (.tmp m) (.tmp c) false)(hq:q.op=.mapEntry t (.tmp m) (.tmp c))(h1:qJ env' (.tmp m)=qJ env (.tmp m))(h2:qJ env' (.tmp c)=qJ env (.tmp c))(h:zL P tab kq q env' a=.ok y b):sI P tab o env a b:=by
 have hc:¬ ∃ f args ts,q.op=.call ⟨.value f,args,ts⟩:=fun ⟨f,args,ts,e⟩=>by rw[hq] at e;cases e
 have:=wE ((kL hc _ _ _).symm.trans h);unfold sS at this;rw[hq] at this;cases this
end Go.Idl
