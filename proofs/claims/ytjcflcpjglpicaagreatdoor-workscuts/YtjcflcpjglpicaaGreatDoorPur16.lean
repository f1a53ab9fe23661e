/- Regions that draw their order, on values without a heap. Conditions: none. -/
import Derived.Test.YtjcflcpjglpicaaGreatDoorPurB
set_option linter.all false
namespace Go.Idl
variable [Gc]
variable {P:Program}{G:Nat->Bool}{nat:xI}{tab:uU}{nm:Nm}
noncomputable def rY (P:Program)(tab:uU)(g:FuncId)(as:List PV)(ph:PHp):PE:=match fzA P as ph with
 | some (zHD,_)=>(match tab g (rtA P g zHD) with
   | some r=>cond (vM r||as.all qLI) (.ok r ph) .fail
   | none=>.fail)
 | none=>.fail
noncomputable def zM (P:Program)(tab:uU)(k:Nat)(o:Oper)(env:List PV)(ph:PHp):PE:=match o.op with
 | .call ⟨.value f,args,_⟩=>(match target (qK env f) (args.toList.map (qK env)) with
   | some (g,as)=>rY P tab g as ph
   | none=>.fail)
 | _=>peO (rG P o env k ph)
theorem qQY {n:Nat}:∀ {cs:List PV} {ph:PHp},cs.all qT1=true->∃ ys,qAC (fz1 P n) cs ph=some (ys,ph)
 | [],ph,_=>⟨[],rfl⟩
 | c::cs,ph,h=>by
   simp only[zQY,zPK] at h;obtain⟨ys,hy⟩:=qQY (n:=n) (ph:=ph) h.2
   cases c with
   | f x =>
     have e:fz1 P n ph (.f x)=some (x,ph):=by cases n <;> rfl
     exact⟨x::ys,by unfold qAC;rw[e];simp only[hy]⟩
   | _=>exact absurd h.1 zSE
theorem qW2:∀ {as:List PV} {ph:PHp},as.all qLI=true->∃ ys,fzA P as ph=some (ys,ph)
 | [],ph,_=>⟨[],rfl⟩
 | a::as,ph,h=>by
   simp only[zQY,zPK] at h;obtain⟨ys,hy⟩:=qW2 (ph:=ph) h.2
   have:∃ y,fzP P ph a=some (y,ph):=by
    cases a with
    | f x=>exact⟨_,rfl⟩
    | agg cs =>
      obtain⟨zs,hz⟩:=qQY (P:=P) (n:=4) (ph:=ph) (cs:=cs) h.1;exact⟨_,by unfold fzP;simp only[hz];rfl⟩
    | _=>exact absurd h.1 zSE
   obtain⟨y,h1⟩:=this;exact⟨y::ys,by unfold fzA;simp only[h1,hy]⟩
theorem qI4 {inl:FuncId->Bool}{fv:PV}{args as:List PV}{g:FuncId}{ph:PHp}(h:target fv args=some (g,as)):pX P tab inl fv args ph=mF P tab inl g as ph:=by
 unfold target at h;split at h
 ·rename_i g' a c;unfold pX
  cases hc:(a.toList.isEmpty&&c.toList.isEmpty) with
  | true=>rw[hc] at h;cases h;simp only[hc,cond_true]
  | false=>rw[hc] at h;cases h
 ·cases h;rfl
 ·cases h
theorem q37 {r:Option (PV×PHp)}{v:PV}{ph':PHp}(h:peO r=.ok v ph'):r=some (v,ph'):=by
 unfold peO at h;split at h
 ·cases h;rfl
 ·cases h
theorem qLD {k:Nat}{o:Oper}{env:List PV}{ph ph':PHp}{v:PV}(h:zM P tab k o env ph=.ok v ph'):bC P tab (fun _=>false) k o env ph=.ok v ph':=by
 by_cases hc:∃ f args ts,o.op=.call ⟨.value f,args,ts⟩
 ·obtain⟨f,args,ts,ho⟩:=hc;unfold zM at h;unfold bC;rw[ho] at h ⊢;simp only at h ⊢;split at h
  ·rename_i g as ht;rw[qI4 ht];show aF P tab g as ph=_;unfold rY at h;unfold aF;split at h
   ·rename_i zHD ph1 hf;split at h
    ·rename_i r hr
     cases hp:vM r with
     | true=>rw[hp] at h;rw[hf];simp only[hr,hp];exact h
     | false =>
       rw[hp] at h
       cases ha:as.all qLI with
       | false=>rw[ha] at h;cases h
       | true =>
         rw[ha] at h;obtain⟨ys,hy⟩:=qW2 (P:=P) (ph:=ph) ha;rw[hy] at hf;cases hf;rw[hy];simp only[hr,hp];exact h
    ·cases h
   ·cases h
  ·cases h
 ·unfold zM at h;unfold bC;split
  ·rename_i f args ts ho;exact absurd ⟨f,args,ts,ho⟩ hc
  ·split at h
   ·rename_i f args ts ho;exact absurd ⟨f,args,ts,ho⟩ hc
   ·rw[qZN (q37 h)];rfl
theorem bG {k:Nat}{o:Oper}{env env':List PV}{ph:PHp}(h:∀ x∈o.op.operands,qK env x=qK env' x):zM P tab k o env ph=zM P tab k o env' ph:=by
 unfold zM;split
 ·rename_i f args ts hop;rw[hop] at h;have hf:qK env f=qK env' f:=h f (by simp[Op.operands,Call.operands]);have ha:args.toList.map (qK env)=args.toList.map (qK env'):=zQ5 fun x hx=>h x (by simp[Op.operands,Call.operands,zQU,hx])
  rw[hf,ha]
 ·rw[qTO h]
theorem qBX {f:Operand}{args:Array Operand}{ts:Array TypeId}{k:Nat}{o:Oper}{env:List PV}{ph ph':PHp}{v:PV}(ho:o.op=.call ⟨.value f,args,ts⟩)(h:zM P tab k o env ph=.ok v ph'):ph'=ph:=by
 unfold zM at h;rw[ho] at h;simp only at h;split at h
 ·unfold rY at h;split at h
  ·split at h
   ·rename_i r hr
    cases hc:(vM r||_) with
    | true=>rw[hc] at h;cases h;rfl
    | false=>rw[hc] at h;cases h
   ·cases h
  ·cases h
 ·cases h
theorem wS {r:Option (PV×PHp)}{v:PV}{ph':PHp}(h:peO r=.ok v ph'):r=some (v,ph'):=by
 unfold peO at h;split at h
 ·cases h;rfl
 ·cases h
theorem qR7 {o:Oper}{env:List PV}{k:Nat}{ph ph1:PHp}{v:PV}(hf:yT o=false)(ha:qM o=false)(h:zM P tab k o env ph=.ok v ph1) :
 ph1=ph∧∀ (k':Nat) (ph':PHp),(∀ l∈dlO o env,qA l ph'=qA l ph)->zM P tab k' o env ph'=.ok v ph':=by
 by_cases hc:∃ f args ts,o.op=.call ⟨.value f,args,ts⟩
 ·obtain⟨f,args,ts,ho⟩:=hc
  rcases qH2 hf ha with h1 | h1 <;> (unfold xO at h1;rw[ho] at h1;cases h1)
 ·have e:∀ k ph,zM P tab k o env ph=peO (rG P o env k ph):=fun k ph=>by
   unfold zM;split
   ·rename_i f args ts ho;exact absurd ⟨f,args,ts,ho⟩ hc
   ·rfl
  rw[e] at h;obtain⟨h1,h2⟩:=zBA hf ha (wS h);exact⟨h1,fun k' ph' hd=>by rw[e,h2 k' ph' hd];rfl⟩
def shp (k:Nat)(ph:PHp):Option (TypeId×Nat):=(qA k ph).map fun o=>(o.el,o.cs.length)
def qRJ (l:Nat)(ph' ph:PHp):Prop:=(∀ k,l=2*k->qA k ph'=qA k ph)∧∀ k,l=2*k+1->shp k ph'=shp k ph
theorem qRJ.refl (l:Nat)(ph:PHp):qRJ l ph ph:=⟨fun _ _=>rfl,fun _ _=>rfl⟩
theorem qRJ.symm {l:Nat}{a b:PHp}(h:qRJ l a b):qRJ l b a:=⟨fun k e=>(h.1 k e).symm,fun k e=>(h.2 k e).symm⟩
theorem qRJ.trans {l:Nat}{a b c:PHp}(h:qRJ l a b)(g:qRJ l b c):qRJ l a c:=⟨fun k e=>(h.1 k e).trans (g.1 k e),fun k e=>(h.2 k e).trans (g.2 k e)⟩
theorem qRJ.of {l:Nat}{a b:PHp}(h:∀ k,l=2*k∨l=2*k+1->qA k a=qA k b):qRJ l a b:=⟨fun k e=>h k (.inl e),fun k e=>by unfold shp;rw[h k (.inr e)]⟩
noncomputable def dlT (o:Oper)(env:List PV):List Nat:=match o.op with
 | .indexAddr _ _ _=>(dlO o env).map fun k=>2*k+1
 | .fieldAddr _ _ _=>(dlO o env).map fun k=>2*k+1
 | .move _=>[]
 | .assign _=>[]
 | _=>(dlO o env).map fun k=>2*k
noncomputable def wlT (nm:Nm)(o:Oper)(env:List PV):List Nat:=match o.op with
 | .call ⟨.value _,_,_⟩=>[]
 | .store _ _ _=>(dlO o env).map fun k=>2*k
 | _=>(qI nm o.dst::dlO o env).flatMap fun k=>[2*k,2*k+1]
theorem q46 {k tt:Nat}{ph ph':PHp}(h:shp k ph'=shp k ph):live? k tt ph'=live? k tt ph:=by
 unfold live?;unfold shp at h
 cases h1:qA k ph with
 | none =>
   rw[h1] at h;simp only[zTZ,Option.map_eq_none_iff] at h;rw[h]
 | some a =>
   rw[h1] at h;simp only[zPZ] at h;obtain⟨b,h2,h3⟩:=zPV.1 h;injection h3 with h4 h5;rw[h2];simp only[h5]
theorem qKP {t:TypeId}{a x:PV}{i:Nat}{ph ph':PHp}(h:zZ P t a i ph=some x)(hd:∀ l∈dl1 a,shp l ph'=shp l ph):zZ P t a i ph'=some x:=by
 cases a <;> first | exact h | skip
 rename_i k tt off;have:=q46 (tt:=tt) (hd k (by simp[dl1]));unfold zZ at h ⊢;simp only[this];exact h
theorem qJD {t:TypeId}{a ix x:PV}{ph ph':PHp}(h:zD P t a ix ph=some x)(hd:∀ l∈dl1 a,shp l ph'=shp l ph):zD P t a ix ph'=some x:=by
 unfold zD at h ⊢;split at h
 ·split at h
  ·exact h
  ·rename_i k tt o n;have hs:=hd k (by simp[dl1]);unfold shp at hs;split at h
   ·rename_i el' ob h1 h2;rw[h2] at hs;simp only[zPZ] at hs;obtain⟨ob',h3,h4⟩:=zPV.1 hs;injection h4 with h5 h6;simp only[h1,h3,h5,h6];exact h
   ·cases h
  ·rename_i k tt off;rw[q46 (tt:=tt) (hd k (by simp[dl1]))];exact h
  ·exact h
  ·cases h
 ·cases h
theorem q15 {t:TypeId}{a x:PV}{ph ph':PHp}(h:jQ P t a x ph=some ph'):(∀ l,l ∉ dl1 a->qA l ph'=qA l ph)∧∀ l,shp l ph'=shp l ph:=by
 unfold jQ at h;split at h
 ·rename_i k tt off;split at h
  ·rename_i ob hob;split at h
   ·rename_i n hn
    replace h:=(gJ h).2
    cases hc:(Nat.beq tt ob.cs.length&&(Nat.beq n (zG x).length&&(Nat.ble (off+n) ob.cs.length&&(pnt x&&(zG x).all aK)))) with
    | true =>
      rw[hc] at h;cases h;rw[zPK,zPK,zPK] at hc;have h1:n=(zG x).length:=zPL hc.2.1;have h2:off+n<=ob.cs.length:=zPU hc.2.2.1;refine⟨fun l hl=>by rw[qZ,if_neg (fun e=>hl (by rw[e.1];simp[dl1]))],fun l=>?_⟩;unfold shp;rw[qZ];split
      ·rename_i e;rw[e.1,hob];simp only[zPZ];rw[dZ (by omega)]
      ·rfl
    | false=>rw[hc] at h;cases h
   ·cases h
  ·cases h
 ·cases h
theorem xE {o:Oper}(hc:¬ ∃ f args ts,o.op=.call ⟨.value f,args,ts⟩)(k:Nat)(env:List PV)(ph:PHp):zM P tab k o env ph=peO (rG P o env k ph):=by
 unfold zM;split
 ·rename_i f args ts ho;exact absurd ⟨f,args,ts,ho⟩ hc
 ·rfl
theorem qUG {o:Oper}{env:List PV}{ph ph':PHp}{v:PV}(h:zM P tab (qI nm o.dst) o env ph=.ok v ph'){l:Nat}(hl:l ∉ wlT nm o env):qRJ l ph' ph:=by
 by_cases hc:∃ f args ts,o.op=.call ⟨.value f,args,ts⟩
 ·obtain⟨f,args,ts,ho⟩:=hc;rw[qBX ho h];exact .refl _ _
 ·by_cases hst:∃ t a x,o.op=.store t a x
  ·obtain⟨t,a,x,ho⟩:=hst;have h1:=wS ((xE hc _ _ _).symm.trans h);obtain⟨d,op,ty,pos,aft,g⟩:=o;cases ho;simp only[rG] at h1;unfold ppS at h1;split at h1
   ·rename_i ph1 hs;cases h1;obtain⟨a1,a2⟩:=q15 hs;refine⟨fun k e=>a1 k fun hk=>hl ?_,fun k _=>a2 k⟩;exact zQB.2 ⟨k,rU (o:=⟨d,.store t a x,ty,pos,aft,g⟩) (by simp[Op.operands]) hk,e.symm⟩
   ·cases h1
  ·have e2:wlT nm o env=(qI nm o.dst::dlO o env).flatMap fun k=>[2*k,2*k+1]:=by
    unfold wlT;split
    ·rename_i f args ts ho;exact absurd ⟨f,args,ts,ho⟩ hc
    ·rename_i t a x ho;exact absurd ⟨t,a,x,ho⟩ hst
    ·rfl
   have h1:=wS ((xE hc _ _ _).symm.trans h);refine .of fun k hk=>?_
   have hn:k ∉ qI nm o.dst::dlO o env:=fun hm=>hl (by
    rw[e2];refine List.mem_flatMap.2 ⟨k,hm,?_⟩
    rcases hk with e | e <;> simp[e])
   simp only[zP6,not_or] at hn;exact zAU h1 hn.1 hn.2
theorem nY {o:Oper}{env:List PV}{k:Nat}{ph ph1:PHp}{v:PV}(hf:yT o=false)(ha:qM o=false)(h:zM P tab k o env ph=.ok v ph1) :
 ph1=ph∧∀ (k':Nat) (ph':PHp),(∀ l∈dlT o env,qRJ l ph' ph)->zM P tab k' o env ph'=.ok v ph':=by
 obtain⟨e1,e2⟩:=qR7 hf ha h;refine⟨e1,fun k' ph' hd=>?_⟩;subst e1;have gen:dlT o env=(dlO o env).map (fun k=>2*k)->zM P tab k' o env ph'=.ok v ph':=fun hg=>e2 k' ph' fun l hl=>(hd (2*l) (by rw[hg];exact zQB.2 ⟨l,hl,rfl⟩)).1 l rfl
 have sh:dlT o env=(dlO o env).map (fun k=>2*k+1)->∀ l∈dlO o env,shp l ph'=shp l ph1:=fun hg l hl=>(hd (2*l+1) (by rw[hg];exact zQB.2 ⟨l,hl,rfl⟩)).2 l rfl
 obtain⟨d,op,ty,pos,aft,g⟩:=o
 cases op <;> first | exact gen rfl | skip
 case move x =>
  have h1:=wS (r:=some (qK env x,ph1)) h;cases h1;rfl
 case assign x =>
  have h1:=wS (r:=some (qK env x,ph1)) h;cases h1;rfl
 case indexAddr t x ix =>
  have h1:=zX (wS h);show peO (pp1 ph' (zD P t (qK env x) (qK env ix) ph'))=_;rw[qJD h1.1 fun l hl=>sh rfl l (rU (o:=⟨d,.indexAddr t x ix,ty,pos,aft,g⟩) (x:=x) (by simp[Op.operands]) hl)];rfl
 case fieldAddr t x i =>
  have h1:=zX (wS h);show peO (pp1 ph' (zZ P t (qK env x) i ph'))=_;rw[qKP h1.1 fun l hl=>sh rfl l (rU (o:=⟨d,.fieldAddr t x i,ty,pos,aft,g⟩) (x:=x) (by simp[Op.operands]) hl)];rfl
def zC (o:Oper):Bool:=yT o||qM o
theorem oJ {o:Oper}(h:zC o=false):yT o=false∧qM o=false:=by
 unfold zC at h;rw[Bool.or_eq_false_iff] at h;exact h
def aG (ops:Array Oper):Bool:=ops.toList.zipIdx.all fun p=>ops.toList.zipIdx.all fun q=>Nat.beq p.2 q.2||(!zC p.1||(!zC q.1||(vQ (Region.before ops) p.2 q.2||vQ (Region.before ops) q.2 p.2)))
theorem qJC {ops:Array Oper}(h:aG ops=true)(k j:Nat)(q o:Oper)(hkj:k≠j)(hk:ops[k]?=some q)(ho:ops[j]?=some o)(hq:zC q=true)(he:zC o=true):vQ (Region.before ops) k j=true∨vQ (Region.before ops) j k=true:=by
 unfold aG at h;have h1:=zPN.1 h (q,k) (zR1.2 (by simpa using hk));have h2:=zPN.1 h1 (o,j) (zR1.2 (by simpa using ho));simp only[hq,he,zTM,zST,zQN] at h2;rcases h2 with h | h | h
 ·exact absurd (zPL h) hkj
 ·exact .inl h
 ·exact .inr h
def q0Z (ops:List Oper)(j k:Nat):Bool:=match ops[j]?,ops[k]? with
 | some o,some q=>(match o.op,q.op with
   | .lookup t (.tmp a) (.tmp c) false,.mapEntry t' (.tmp a') (.tmp c')=>Nat.beq t t'&&Nat.beq a a'&&Nat.beq c c'&&Nat.blt j k&&ops.zipIdx.all fun p=>!(Nat.ble j p.2)||!(Nat.blt p.2 k)||(match p.1.dst with | some d=>!(Nat.beq d a)&&!(Nat.beq d c) | none=>true)
   | _,_=>false)
 | _,_=>false
structure DB where
 b:Array Nat
 x:Nat->Nat->Bool
def dBo (ops:Array Oper):DB:=⟨Region.before ops,q0Z ops.toList⟩
noncomputable def nN (b:DB)(zGB:List PV)(E F:List (Nat×List Nat))(N:List (Nat×Nat))(V:List (Nat×PV)):Bool :=
 (F.all fun f=>E.all fun e=>qPS b.b e.1 f.1||(b.x f.1 e.1||f.2.all fun l=>!e.2.contains l))&&N.all fun n=>z8 n.2 zGB&&V.all fun v=>Nat.beq v.1 n.1||(vQ b.b n.1 v.1||noK n.2 v.2)
def qB1 (c x:Bool)(t:PT):PT:=cond c (.chk x t) t
noncomputable def qL9 (P:Program)(tab:uU)(nm:Nm)(ds:List (Option Tmp))(b:DB)(zGB:List PV):Nat->List Oper->List PV->PHp->List (Nat×List Nat)->List (Nat×List Nat)->List (Nat×Nat)->List (Nat×PV)->PT
 | i,[],env,ph,E,F,N,V=>.chk (nN b zGB E F N V) (.ret env ph)
 | i,o::l,env,ph,E,F,N,V=>vK (vH ds o env)
    (match zM P tab (qI nm o.dst) o env ph with
     | .ok v ph'=>qB1 (needs o.op) (inP nm (qI nm o.dst)&&aJ (qI nm o.dst) ph) (qL9 P tab nm ds b zGB (i+1) l (yM env o.dst v) ph' (cond (zC o) ((i,wlT nm o env)::E) E) (cond (zC o) F ((i,dlT o env)::F)) (cond (needs o.op) ((i,qI nm o.dst)::N) N) ((i,v)::V))
     | _=>.fail)
    (qL9 P tab nm ds b zGB (i+1) l (yM env o.dst (.tup [])) ph E F N ((i,.tup [])::V)) .fail
structure TrI (P:Program) (tab:uU) (nm:Nm) (ds:List (Option Tmp)) (b:DB) (ops:List Oper) (zGB:List PV) (ph0:PHp) (En:Nat->List PV) (Hs:Nat->PHp) (V:Nat->PV) (j:Nat) (E F:List (Nat×List Nat)) (N:List (Nat×Nat)) (W:List (Nat×PV)):Prop where
 e0:En 0=zGB
 h0:Hs 0=ph0
 step:∀ i o,ops[i]?=some o->En (i+1)=yM (En i) o.dst (V i)∧(j+i,V i)∈W ∧
  ((vH ds o (En i)=some true∧zM P tab (qI nm o.dst) o (En i) (Hs i)=.ok (V i) (Hs (i+1))∧(needs o.op=true->inP nm (qI nm o.dst)=true∧aJ (qI nm o.dst) (Hs i)=true∧(j+i,qI nm o.dst)∈N) ∧
     (zC o=true->(j+i,wlT nm o (En i))∈E)∧(zC o=false->(j+i,dlT o (En i))∈F)) ∨
    (vH ds o (En i)=some false∧V i=.tup []∧Hs (i+1)=Hs i))
theorem qGG {Q:List PV->PHp->Prop}{ds:List (Option Tmp)}{b:DB}{zGB:List PV}:∀ (l:List Oper) (j:Nat) (env:List PV) (ph:PHp) (E F:List (Nat×List Nat)) (N:List (Nat×Nat)) (W:List (Nat×PV)),
 (qL9 P tab nm ds b zGB j l env ph E F N W).holds P G Q->∃ En Hs V E' F' N' W',TrI P tab nm ds b l env ph En Hs V j E' F' N' W'∧(∀ x∈E,x∈E')∧(∀ x∈F,x∈F')∧(∀ x∈N,x∈N')∧(∀ x∈W,x∈W')∧nN b zGB E' F' N' W'=true∧Q (En l.length) (Hs l.length)
 | [],j,env,ph,E,F,N,W,h=>⟨fun _=>env,fun _=>ph,fun _=>.unk,E,F,N,W,⟨rfl,rfl,fun i o h=>by simp at h⟩,fun _ h=>h,fun _ h=>h,fun _ h=>h,fun _ h=>h,h.1,h.2⟩
 | o::l,j,env,ph,E,F,N,W,h=>by
   unfold qL9 vK at h;split at h
   ·rename_i hw;split at h
    ·rename_i v ph' hx
     have hh:(needs o.op=true->inP nm (qI nm o.dst)=true∧aJ (qI nm o.dst) ph=true)∧(qL9 P tab nm ds b zGB (j+1) l (yM env o.dst v) ph' (cond (zC o) ((j,wlT nm o env)::E) E) (cond (zC o) F ((j,dlT o env)::F)) (cond (needs o.op) ((j,qI nm o.dst)::N) N) ((j,v)::W)).holds P G Q:=by
      unfold qB1 at h
      cases hn:needs o.op with
      | true =>
        rw[hn] at h;obtain⟨hc,h⟩:=h;rw[zPK] at hc;exact⟨fun _=>hc,h⟩
      | false=>rw[hn] at h;exact⟨fun h=>by (cases h),h⟩
     obtain⟨hc,h⟩:=hh;obtain⟨En,Hs,V,E',F',N',W',t,a1,a2,a3,a4,a5,a6⟩:=qGG l (j+1) _ _ _ _ _ _ h;refine⟨fun i=>Nat.casesOn i env fun i=>En i,fun i=>Nat.casesOn i ph fun i=>Hs i,fun i=>Nat.casesOn i v fun i=>V i,E',F',N',W',⟨rfl,rfl,fun i p hi=>?_⟩,fun x hx=>a1 x ?_,fun x hx=>a2 x ?_,fun x hx=>a3 x ?_,fun x hx=>a4 x (zPS _ hx),a5,a6⟩
     ·cases i with
      | zero =>
        simp only[zQF,zPT] at hi;subst hi;have e0:Hs 0=ph':=t.h0;have hx0:zM P tab (qI nm o.dst) o env ph=.ok v (Hs 0):=by rw[e0];exact hx
        refine⟨t.e0,a4 _ zPX,.inl ⟨hw,hx0,fun hn=>?_,fun he=>a1 _ (by rw[he];exact zPX),fun he=>a2 _ (by rw[he];exact zPX)⟩⟩;have hc:=hc hn;exact⟨hc.1,hc.2,a3 _ (by rw[hn];exact zPX)⟩
      | succ i =>
        have:=t.step i p (by simpa using hi);rw[show j+1+i=j+(i+1) by omega] at this;exact this
     ·cases zC o
      ·exact hx
      ·exact zPS _ hx
     ·cases zC o
      ·exact zPS _ hx
      ·exact hx
     ·cases needs o.op
      ·exact hx
      ·exact zPS _ hx
    ·exact h.elim
   ·rename_i hw;obtain⟨En,Hs,V,E',F',N',W',t,a1,a2,a3,a4,a5,a6⟩:=qGG l (j+1) _ _ _ _ _ _ h;refine⟨fun i=>Nat.casesOn i env fun i=>En i,fun i=>Nat.casesOn i ph fun i=>Hs i,fun i=>Nat.casesOn i (.tup []) fun i=>V i,E',F',N',W',⟨rfl,rfl,fun i p hi=>?_⟩,a1,a2,a3,fun x hx=>a4 x (zPS _ hx),a5,a6⟩
    cases i with
    | zero =>
      simp only[zQF,zPT] at hi;subst hi;exact⟨t.e0,a4 _ zPX,.inr ⟨hw,rfl,t.h0⟩⟩
    | succ i =>
      have:=t.step i p (by simpa using hi);rw[show j+1+i=j+(i+1) by omega] at this;exact this
   ·exact h.elim
def mY (P:Program)(tab:uU)(o:Oper)(env:List PV)(a b:PHp):Prop:=∀ (k:Nat) (v:PV),zM P tab k o env a=.ok v a ↔ zM P tab k o env b=.ok v b
theorem mY.refl {o:Oper}{env:List PV}(a:PHp):mY P tab o env a a:=fun _ _=>Iff.rfl
theorem mY.symm {o:Oper}{env:List PV}{a b:PHp}(h:mY P tab o env a b):mY P tab o env b a:=fun k v=>(h k v).symm
theorem mY.trans {o:Oper}{env:List PV}{a b c:PHp}(h:mY P tab o env a b)(g:mY P tab o env b c):mY P tab o env a c:=fun k v=>(h k v).trans (g k v)
theorem mY.tk {o:Oper}{env:List PV}{a b:PHp}(hf:yT o=false)(ha:qM o=false)(h:∀ l∈dlT o env,qRJ l b a):mY P tab o env a b:=fun k v =>
 ⟨fun e=>(nY hf ha e).2 k b h,fun e=>(nY hf ha e).2 k a fun l hl=>(h l hl).symm⟩
theorem mY.look {o q:Oper}{env env':List PV}{a b:PHp}{t:TypeId}{m c:Tmp}{kq:Nat}{y:PV}(ho:o.op=.lookup t (.tmp m) (.tmp c) false)(hq:q.op=.mapEntry t (.tmp m) (.tmp c))(h1:qK env' (.tmp m)=qK env (.tmp m))(h2:qK env' (.tmp c)=qK env (.tmp c))(h:zM P tab kq q env' a=.ok y b):mY P tab o env a b:=by
 have hc:∀ {o:Oper},(∀ c,o.op≠.call c)->¬ ∃ f args ts,o.op=.call ⟨.value f,args,ts⟩:=fun hn ⟨f,args,ts,e⟩=>hn _ e
 have h3:kJ P t (qK env' (.tmp m)) (qK env' (.tmp c)) a=some (y,b):=by
  have:=wS ((xE (hc fun c e=>by rw[hq] at e;cases e) _ _ _).symm.trans h);unfold rG at this;rw[hq] at this;exact this
 rw[h1,h2] at h3;have h4:=qD3 h3;intro k v;rw[xE (hc fun c e=>by rw[ho] at e;cases e),xE (hc fun c e=>by rw[ho] at e;cases e)];unfold rG;rw[ho];simp only[pp1,h4]
 cases kR P t (qK env (.tmp m)) (qK env (.tmp c)) false a with
 | none=>exact⟨fun e=>by (cases e),fun e=>by (cases e)⟩
 | some x=>exact⟨fun e=>by cases e;rfl,fun e=>by cases e;rfl⟩
end Go.Idl
