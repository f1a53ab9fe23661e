/- Regions that draw their order, on values without a heap: whatever the order. Conditions: none. -/
import Derived.Test.YtmojbdabaigobaaGreatDoorPur16
import Derived.OrdersIn
set_option linter.all false
namespace Go.Idl
variable [Gc]
variable {P:Program}{G:Nat->Bool}{nat:xC}{tab:uT}{nm:Nm}{good:FuncId->Bool}{rd:Bool}
structure zGR (ops:Array Oper):Prop where
 back:∀ j o,ops[j]?=some o->∀ e∈o.after,Region.binds .any e=true->e.on < j
 dst:∀ (i j:Nat) (o p:Oper) (d:Tmp),i≠j->ops[i]?=some o->ops[j]?=some p->o.dst=some d->p.dst≠some d
 reads:∀ (i j:Nat) (o p:Oper) (d:Tmp),i≠j->ops[i]?=some o->ops[j]?=some p->o.dst=some d->d∈uE ops p ->
  vI (Region.before ops) i j=true∨(qL o=false∧vI (Region.before ops) j i=true)
theorem Stat.z {ops:Array Oper}(st:Stat ops):zGR ops:=⟨st.back,st.dst,st.reads⟩
noncomputable def pat (env:List PV)(t:Nat):PV:=(zL env t).getD .unk
theorem oG {env:List PV}{t:Nat}(h:env.length<=t):pat env t=.unk:=by simp[pat,qF,zPZ h]
theorem qGX (env:List PV)(d:Option Tmp)(v:PV)(t:Nat):pat (yO env d v) t=if d=some t∧t < env.length then v else pat env t:=by
 cases d with
 | none=>simp[yO]
 | some d =>
   simp only[yO,pat,qF,qX,zPA,zOP];by_cases h:d=t
   ·subst h;by_cases hl:d < env.length
    ·simp[hl]
    ·simp[hl]
   ·simp[h]
theorem qV8 (env:List PV)(d:Option Tmp)(v:PV):(yO env d v).length=env.length:=by
 cases d with
 | none=>rfl
 | some d=>simp[yO,qX]
theorem qVR {a b:List PV}(hl:a.length=b.length){t:Nat}(h:pat a t=pat b t):zL a t=zL b t:=by
 simp only[pat,qF] at h ⊢;by_cases ht:t < a.length
 ·rw[zOL ht,zOL (by omega)] at h ⊢;simpa using h
 ·rw[zPZ (by omega),zPZ (by omega)]
theorem qCU {a b:List PV}(hl:a.length=b.length)(h:∀ t,pat a t=pat b t):a=b:=by
 apply zP2;intro t;have:=qVR hl (h t)
 rwa [qF,qF] at this
section
variable {n0:Nat}{ops:Array Oper}{zE3:List PV}{ph0:PHp}{En:Nat->List PV}{Hs:Nat->PHp}{V:Nat->PV}{E F:List (Nat×List Nat)}{N:List (Nat×Nat)}{W:List (Nat×PV)}
theorem qR5 {ds:List (Option Tmp)}{b:DB}(t:TrI P tab nm ds b (ops.toList.take n0) zE3 ph0 En Hs V 0 E F N W)(hn:n0<=ops.size){i:Nat}{o:Oper}(h:ops[i]?=some o)(hi:i < n0) :
 En (i+1)=yO (En i) o.dst (V i)∧(0+i,V i)∈W ∧
 ((vH ds o (En i)=some true∧zN P tab (qH nm o.dst) o (En i) (Hs i)=.ok (V i) (Hs (i+1))∧(needs o.op=true->inP nm (qH nm o.dst)=true∧fT (qH nm o.dst) (Hs i)=true∧(0+i,qH nm o.dst)∈N) ∧
    (zB o=true->(0+i,wlT nm o (En i))∈E)∧(zB o=false->(0+i,dlT o (En i))∈F)) ∨
   (vH ds o (En i)=some false∧V i=.tup []∧Hs (i+1)=Hs i)):=t.step i o (by rw[List.getElem?_take_of_lt hi];simpa using h)
structure TrE (n0:Nat) (ops:Array Oper) (zE3:List PV) (En:Nat->List PV) (V:Nat->PV):Prop where
 e0:En 0=zE3
 step:∀ i o,ops[i]?=some o->i < n0->En (i+1)=yO (En i) o.dst (V i)
theorem TrI.e {ds:List (Option Tmp)}{b:DB}(t:TrI P tab nm ds b (ops.toList.take n0) zE3 ph0 En Hs V 0 E F N W)(hn:n0<=ops.size):TrE n0 ops zE3 En V:=⟨t.e0,fun i o h hi=>(qR5 t hn h hi).1⟩
theorem fV (t:TrE n0 ops zE3 En V)(hn:n0<=ops.size):∀ i,i<=n0->(En i).length=zE3.length
 | 0,_=>by rw[t.e0]
 | i+1,h=>by
   obtain⟨o,ho⟩:∃ o,ops[i]?=some o:=⟨_,zOY (by omega)⟩
   rw[t.step _ _ ho (by omega),qV8,fV t hn i (by omega)]
theorem qFX (t:TrE n0 ops zE3 En V)(hn:n0<=ops.size){x:Nat}:∀ i,i<=n0->(∀ k o,k < i->ops[k]?=some o->o.dst≠some x)->pat (En i) x=pat zE3 x
 | 0,_,_=>by rw[t.e0]
 | i+1,h,hk=>by
   obtain⟨o,ho⟩:∃ o,ops[i]?=some o:=⟨_,zOY (by omega)⟩
   rw[t.step _ _ ho (by omega),qGX,if_neg (fun hc=>hk i o (by omega) ho hc.1)];exact qFX t hn i (by omega) fun k o hk1=>hk k o (by omega)
theorem qQ7 (t:TrE n0 ops zE3 En V)(hn:n0<=ops.size)(st:zGR ops){k x:Nat}{o:Oper}(ho:ops[k]?=some o)(hd:o.dst=some x)(hx:x < zE3.length):∀ i,i<=n0->k < i->pat (En i) x=V k
 | 0,_,h=>by omega
 | i+1,h,hk=>by
   obtain⟨p,hp⟩:∃ o,ops[i]?=some o:=⟨_,zOY (by omega)⟩
   rw[t.step _ _ hp (by omega),qGX];by_cases e:k=i
   ·subst e;rw[ho] at hp;cases hp;rw[if_pos ⟨hd,by rw[fV t hn k (by omega)];exact hx⟩]
   ·rw[if_neg (fun hc=>st.dst k i o p x e ho hp hd hc.1)];exact qQ7 t hn st ho hd hx i (by omega) (by omega)
theorem qN6 {ds:List (Option Tmp)}{b:DB}(t:TrI P tab nm ds b (ops.toList.take n0) zE3 ph0 En Hs V 0 E F N W)(hn:n0<=ops.size)(hal:fZ ops=true){i:Nat}{o:Oper}(ho:ops[i]?=some o)(hi:i < n0)(he:zB o=false):Hs (i+1)=Hs i:=by
 rcases (qR5 t hn ho hi).2.2 with ⟨_,h,_⟩ | ⟨_,_,h⟩
 ·exact (oO (nP he).1 (nP he).2 h).1
 ·exact h
theorem qOW {ds:List (Option Tmp)}{b:DB}(t:TrI P tab nm ds b (ops.toList.take n0) zE3 ph0 En Hs V 0 E F N W)(hn:n0<=ops.size)(hal:fZ ops=true):∀ (n p q:Nat),q=p+n->q<=n0->(∀ k o,ops[k]?=some o->zB o=true->(k < p ↔ k < q))->Hs p=Hs q
 | 0,p,q,hq,_,_=>by rw[hq];rfl
 | n+1,p,q,hq,hle,h=>by
   obtain⟨o,ho⟩:∃ o,ops[p]?=some o:=⟨_,zOY (by omega)⟩
   have he:zB o=false:=by
    cases he:zB o with
    | false=>rfl
    | true=>have:=h p o ho he;omega
   rw[<-qN6 t hn hal ho (by omega) he];refine qOW t hn hal n (p+1) q (by omega) hle fun k o' hk hk'=>?_
   have:=h k o' hk hk';constructor
   ·intro h1;omega
   ·intro h1;have:=this.2 h1;omega
theorem qFV {ds:List (Option Tmp)}{b:DB}(t:TrI P tab nm ds b (ops.toList.take n0) zE3 ph0 En Hs V 0 E F N W)(hn:n0<=ops.size){x j:Nat}:∀ i,i<=n0->j<=i->(∀ k o,j<=k->k < i->ops[k]?=some o->o.dst≠some x)->pat (En i) x=pat (En j) x
 | i,h,hj,hk=>by
   by_cases e:j=i
   ·rw[e]
   ·cases i with
    | zero=>omega
    | succ i =>
      obtain⟨o,ho⟩:∃ o,ops[i]?=some o:=⟨_,zOY (by omega)⟩
      rw[(qR5 t hn ho (by omega)).1,qGX,if_neg (fun hc=>hk i o (by omega) (by omega) ho hc.1)];exact qFV t hn i (by omega) (by omega) fun k o h1 h2=>hk k o h1 (by omega)
theorem qNQ {ds:List (Option Tmp)}{b:DB}(t:TrI P tab nm ds b (ops.toList.take n0) zE3 ph0 En Hs V 0 E F N W)(hn:n0<=ops.size)(hal:fZ ops=true){j:Nat}{oj:Oper}(hoj:ops[j]?=some oj)(hf:yS oj=false)(ha:qL oj=false):∀ (n p q:Nat),q=p+n->q<=n0 ->
 (∀ k o,p<=k->k < q->ops[k]?=some o->zB o=true->∀ ws,(k,ws)∈E->(∀ l∈dlT oj (En j),l ∉ ws)∨qZE ops.toList j k=true)->sW P tab oj (En j) (Hs p) (Hs q)
 | 0,p,q,hq,_,_=>by rw[hq];exact .refl _
 | n+1,p,q,hq,hle,h=>by
   obtain⟨o,ho⟩:∃ o,ops[p]?=some o:=⟨_,zOY (by omega)⟩
   have h1:sW P tab oj (En j) (Hs p) (Hs (p+1)):=by
    cases he:zB o with
    | false=>rw[qN6 t hn hal ho (by omega) he];exact .refl _
    | true =>
      rcases (qR5 t hn ho (by omega)).2.2 with ⟨_,hx,_,hE,_⟩ | ⟨_,_,hx⟩
      ·have hE:=hE he;rw[zPF] at hE;rcases h p o (zOI _) (by omega) ho he _ hE with h2 | h2
       ·exact .tk hf ha fun l hl=>qYM hx (h2 l hl)
       ·have toL:∀ i:Nat,ops.toList[i]?=ops[i]?:=fun i=>zSM ..
        unfold qZE at h2;rw[toL,toL,hoj,ho] at h2;simp only at h2;split at h2
        ·rename_i ty a c ty' a' c' e1 e2;simp only[zOG] at h2;obtain⟨⟨⟨⟨c1,c2⟩,c3⟩,c4⟩,c5⟩:=h2;cases zOH c1;cases zOH c2;cases zOH c3;have hjp:j < p:=zOQ c4
         have nw:∀ k o,j<=k->k < p->ops[k]?=some o->o.dst≠some a∧o.dst≠some c:=fun k o k1 k2 k3=>by
          have:=zOJ.1 c5 (o,k) (zQ1.2 (by rw[toL];exact k3));have g1:Nat.ble j k=true:=zOV k1;have g2:Nat.blt k p=true:=zOV k2;simp only[g1,g2,zSF,zRF] at this
          cases hd:o.dst with
          | none=>exact⟨fun e=>by (cases e),fun e=>by (cases e)⟩
          | some d =>
            rw[hd] at this;simp only[zOG,zO3] at this;exact⟨fun e=>by cases e;rw[aC] at this;exact absurd this.1 (by decide),fun e=>by cases e;rw[aC] at this;exact absurd this.2 (by decide)⟩
         exact .look e1 e2 (qFV t hn p (by omega) (by omega) fun k o k1 k2 k3=>(nw k o k1 k2 k3).1) (qFV t hn p (by omega) (by omega) fun k o k1 k2 k3=>(nw k o k1 k2 k3).2) hx
        ·cases h2
      ·rw[hx];exact .refl _
   exact h1.trans (qNQ t hn hal hoj hf ha n (p+1) q (by omega) hle fun k o' hk1 hk2=>h k o' (by omega) hk2)
open Classical in
noncomputable def qD4 (ops:Array Oper)(S:Array Bool)(zE3 eF:List PV):List PV:=(List.range zE3.length).map fun t=>if wr ops S t then pat eF t else pat zE3 t
theorem j3 (S:Array Bool)(eF:List PV):(qD4 ops S zE3 eF).length=zE3.length:=by simp[qD4]
open Classical in
theorem fJ {S:Array Bool}{eF:List PV}(hl:eF.length=zE3.length)(t:Nat):pat (qD4 ops S zE3 eF) t=if wr ops S t then pat eF t else pat zE3 t:=by
 by_cases ht:t < zE3.length
 ·simp[qD4,pat,qF,zSU ht]
 ·rw[oG (by rw[j3];omega),oG (by omega),oG (by omega)];simp
theorem q3Z (t:TrE n0 ops zE3 En V)(hn:n0<=ops.size)(st:zGR ops){S:Array Bool}(zGP:Clo ops S)(hsl:∀ i,sel S i->i < n0){j:Nat}{o:Oper}(ho:ops[j]?=some o)(hjn0:j<=n0)(hj:¬ sel S j)(hp:∀ i,vI (Region.before ops) i j=true->sel S i) :
 ∀ x∈uE ops o,pat (qD4 ops S zE3 (En n0)) x=pat (En j) x:=by
 intro x hx;have hjn:=(zOT.1 ho).1
 have before:∀ {k:Nat} {q:Oper},k≠j->ops[k]?=some q->q.dst=some x->vI (Region.before ops) k j=true∨vI (Region.before ops) j k=true:=fun hk hq hd=>by
  rcases st.reads _ j _ o x hk hq ho hd hx with h | ⟨_,h⟩
  ·exact .inl h
  ·exact .inr h
 rw[fJ (fV t hn _ (zOI _))];by_cases hw:wr ops S x
 ·rw[if_pos hw];obtain⟨i,oi,hi,hs,hd⟩:=hw;have hij:i≠j:=fun e=>hj (e ▸ hs)
  have hb:vI (Region.before ops) i j=true:=by
   rcases before hij hi hd with h | h
   ·exact h
   ·exact absurd (zGP j i h hs) hj
  have hlt:=vU st.back j i hb;by_cases hx':x < zE3.length
  ·have:=hsl i hs;rw[qQ7 t hn st hi hd hx' _ (zOI _) (by omega),qQ7 t hn st hi hd hx' j (by omega) hlt]
  ·rw[oG (env:=En n0) (t:=x) (by rw[fV t hn _ (zOI _)];exact zSJ hx'),oG (env:=En j) (t:=x) (by rw[fV t hn j (by omega)];exact zSJ hx')]
 ·rw[if_neg hw];refine (qFX t hn j (by omega) fun k q hk hq hd=>?_).symm;rcases before (by omega) hq hd with h | h
  ·exact hw ⟨k,q,hq,hp k h,hd⟩
  ·have:=vU st.back k j h;omega
theorem qQN (t:TrE n0 ops zE3 En V)(hn:n0<=ops.size)(st:zGR ops){S:Array Bool}{j:Nat}{o:Oper}(ho:ops[j]?=some o)(hj0:j < n0)(hjs:j < S.size) :
 qD4 ops (S.setIfInBounds j true) zE3 (En n0)=yO (qD4 ops S zE3 (En n0)) o.dst (V j):=by
 have hl:=fV t hn _ (zOI _);have hjn:=(zOT.1 ho).1;apply qCU
 ·rw[qV8,j3,j3]
 intro x;rw[qGX,j3,fJ hl,fJ hl];by_cases hd:o.dst=some x
 ·have hw:wr ops (S.setIfInBounds j true) x:=⟨j,o,ho,(yP hjs).2 (.inl rfl),hd⟩
  rw[if_pos hw];by_cases hx:x < zE3.length
  ·rw[if_pos ⟨hd,hx⟩,qQ7 t hn st ho hd hx _ (zOI _) hj0]
  ·rw[if_neg (c:=o.dst=some x∧x < zE3.length) (fun h=>hx h.2),oG (by omega),oG (by omega)];simp
 ·rw[if_neg (c:=o.dst=some x∧x < zE3.length) (fun h=>hd h.1)]
  have:wr ops (S.setIfInBounds j true) x ↔ wr ops S x:=by
   constructor
   ·rintro⟨i,oi,h1,h2,h3⟩;rcases (yP hjs).1 h2 with rfl | h2
    ·rw[ho] at h1;cases h1;exact absurd h3 hd
    ·exact⟨i,oi,h1,h2,h3⟩
   ·rintro⟨i,oi,h1,h2,h3⟩;exact⟨i,oi,h1,(yP hjs).2 (.inr h2),h3⟩
  by_cases hw:wr ops S x
  ·rw[if_pos hw,if_pos (this.2 hw)]
  ·rw[if_neg hw,if_neg (fun h=>hw (this.1 h))]
theorem qEK {o:Oper}{a c:List PV}(h:∀ t∈uE ops o,pat a t=pat c t):∀ x∈o.op.operands,qK a x=qK c x:=by
 intro x hx
 cases x with
 | tmp t=>exact h t (zPV _ (zQY.2 ⟨.tmp t,zPW.1 hx,rfl⟩))
 | _=>rfl
theorem qBF {o:Oper}{a c:List PV}(hl:a.length=c.length)(h:∀ t∈uE ops o,pat a t=pat c t):vH (ops.toList.map (·.dst)) o a=vH (ops.toList.map (·.dst)) o c:=by
 unfold vH;split
 ·rfl
 ·rename_i g w hg
  have hd:qR3 (ops.toList.map (·.dst)) g=(ops[g]?).bind (·.dst):=by
   unfold qR3;rw[zOX];have:ops.toList[g]?=ops[g]?:=by simp
   rw[this];cases ops[g]? <;> rfl
  unfold qPA;rw[hd]
  cases ht:(ops[g]?).bind (·.dst) with
  | none=>rfl
  | some t =>
    simp only;rw[qVR hl (h t (zQH _ (by rw[hg];simp[ht])))]
def zDR (ops:Array Oper)(S:Array Bool)(p:Nat):Prop:=∀ (j:Nat) (o:Oper),ops[j]?=some o->zB o=true->(sel S j ↔ j < p)
structure zII (P:Program) (B:Nat) (nm:Nm) (ops:Array Oper) (zE3:List PV) (n0:Nat) (En:Nat->List PV) (Hs:Nat->PHp) (Z0:Nat->Prop) (H0:IH) (m0:Nat->Nat) (ph0:PHp) (f0:Inj) (w0:World) (S:Array Bool) (a:Act) (w:World) (p:Nat) (Z:Nat->Prop) (H:IH) (m:Nat->Nat) (f:Inj) (zEZ:Env):Prop where
 size:S.size=ops.size
 clo:Clo ops S
 cut:zDR ops S p
 ple:p<=n0
 sl:∀ i,sel S i->i < n0
 rel:Rel P f H w
 grow:Grow f0 H0 w0 f H w
 zGG:qE P f zEZ a.tmps.toList
 marks:Marks B f w a.defers
 hp:Hp P Z H (own m (Hs p))
 hb:H.base<=H.size
 env:VRL P Z H (own m (Hs p)) (qD4 ops S zE3 (En n0)) zEZ
 step:Step Z0 H0 (own m0 ph0) Z H (own m (Hs p))
 kr:KR (inP nm) (own m0 ph0) (own m (Hs p))
theorem qNP {k:Nat}:∀ {l:List PV},(∀ t,noK k (pat l t)=true)->yA k l=true
 | [],_=>rfl
 | x::l,h=>by
   simp only[yA,zOG];refine⟨h 0,qNP fun t=>?_⟩;have:=h (t+1);exact this
theorem qTW {k:Nat}{l:List PV}(h:yA k l=true)(t:Nat):noK k (pat l t)=true:=by
 unfold pat;rw[qF]
 cases he:l[t]? with
 | none=>rfl
 | some x=>exact wE h he
theorem qSY {B:Nat}{F0:Fence}(hF:aW F0)(hns:vP P G nat)(ht:qSE P nat tab)(t:TrI P tab nm (ops.toList.map (·.dst)) (dBo ops) (ops.toList.take n0) zE3 ph0 En Hs V 0 E F N W)(hn:n0<=ops.size)(hlast:∀ i j,i < n0->n0<=j->j < ops.size->vI (Region.before ops) i j=true)(st:zGR ops)(hal:fZ ops=true)
 (hck:mV (dBo ops) zE3 E F N W=true) {K:Exit->Act->World->Prop} {Z0:Nat->Prop} {H0:IH} {m0:Nat->Nat} {f0:Inj} {w0:World}
 (hdone:∀ (fuel:Nat) (S:Array Bool) (Z:Nat->Prop) (H:IH) (m:Nat->Nat) (f:Inj) (zEZ:Env) (a:Act) (w:World),unl ops S<=fuel->S.size=ops.size->(∀ i,i < ops.size->(sel S i ↔ i < n0))->Rel P f H w->Grow f0 H0 w0 f H w->qE P f zEZ a.tmps.toList->Marks B f w a.defers->Hp P Z H (own m (Hs n0))->H.base<=H.size->VRL P Z H (own m (Hs n0)) (En n0) zEZ ->
   Step Z0 H0 (own m0 ph0) Z H (own m (Hs n0))->KR (inP nm) (own m0 ph0) (own m (Hs n0))->wpAnyIn F0 0 P .any ops K fuel S a w)
 (hG:uX G f0) (hok:uY (zA f0) ops=true) :
 ∀ (fuel:Nat) (S:Array Bool) (a:Act) (w:World),unl ops S<=fuel->(∃ p Z H m f zEZ,zII P B nm ops zE3 n0 En Hs Z0 H0 m0 ph0 f0 w0 S a w p Z H m f zEZ)->wpAnyIn F0 0 P .any ops K fuel S a w:=by
 intro fuel;have hl:=fV (t.e hn) hn _ (zOI _)
 have zFS:∀ {S:Array Bool},S.size=ops.size->Region.ready .any ops S=[]->∀ j,j < ops.size->sel S j:=by
  intro S hsz hr j
  induction j using Nat.strongRecOn with
  | _ j ih =>
    intro hj;by_cases hs:sel S j
    ·exact hs
    ·exfalso
     have:j∈Region.ready .any ops S:=by
      rw[mem_ready];refine⟨?_,ops[j],by simp[hj],fun e he hb=>?_⟩
      ·unfold sel at hs;rw[zOU] at hs ⊢;rw[zOY (by omega)] at hs ⊢;simpa using hs
      ·have hlt:=st.back j ops[j] (by simp[hj]) e he hb;exact ih e.on hlt (by omega)
     rw[hr] at this;cases this
 have done:∀ {fuel:Nat} {S:Array Bool} {a:Act} {w:World} {p:Nat} {Z:Nat->Prop} {H:IH} {m:Nat->Nat} {f:Inj} {zEZ:Env},unl ops S<=fuel->zII P B nm ops zE3 n0 En Hs Z0 H0 m0 ph0 f0 w0 S a w p Z H m f zEZ->(∀ j,j < n0->sel S j)->wpAnyIn F0 0 P .any ops K fuel S a w:=by
  intro fuel S a w p Z H m f zEZ hu s hall;have hcut:∀ k o,ops[k]?=some o->zB o=true->(k < p ↔ k < n0):=fun k o hk he=>(s.cut k o hk he).symm.trans ⟨fun h=>s.sl k h,fun h=>hall k h⟩
  have hpe:Hs p=Hs n0:=qOW t hn hal (n0 - p) p n0 (by have:=s.ple;omega) (zOI _) hcut
  have hcur:qD4 ops S zE3 (En n0)=En n0:=by
   apply qCU
   ·rw[j3,hl]
   intro x;rw[fJ hl];by_cases hw:wr ops S x
   ·rw[if_pos hw]
   ·rw[if_neg hw];exact (qFX (t.e hn) hn _ (zOI _) fun k o hk ho hd=>hw ⟨k,o,ho,hall k hk,hd⟩).symm
  have e1:=s.hp;have e2:=s.env;have e3:=s.step;have e4:=s.kr;rw[hpe] at e1 e2 e3 e4;rw[hcur] at e2;exact hdone fuel S Z H m f zEZ a w hu s.size (fun i _=>⟨s.sl i,hall i⟩) s.rel s.grow s.zGG s.marks e1 s.hb e2 e3 e4
 induction fuel with
 | zero =>
   rintro S a w hu ⟨p,Z,H,m,f,zEZ,s⟩
   have hall:∀ j,j < n0->sel S j:=by
    intro j hj;have hz:unl ops S=0:=by omega
    unfold unl at hz;have:=zR3.1 hz j (zQZ.2 (by omega));unfold sel;simpa using this
   exact done hu s hall
 | succ fuel ih =>
   rintro S a w hu ⟨p,Z,H,m,f,zEZ,s⟩;by_cases hall:∀ j,j < n0->sel S j
   ·exact done hu s hall
   refine⟨fun hrd=>absurd (fun j hj=>zFS s.size hrd j (by omega)) hall,fun j hj=>?_⟩;rw[mem_ready] at hj;obtain⟨hjl,o,ho,zHC⟩:=hj;have hlt:=(zOT.1 ho).1;have hjs:j < S.size:=by rw[s.size];exact hlt
   have hnj:¬ sel S j:=by
    unfold sel;rw[zOU,zOY hjs] at hjl ⊢;simp only[zQL] at hjl ⊢;rw[hjl];simp
   have hpre:∀ i,vI (Region.before ops) i j=true->sel S i:=by
    intro i hb;obtain⟨e,he,hbd,h3⟩:=(qG4 st.back ho).1 hb;have:=zHC e he hbd;rcases h3 with rfl | h3
    ·exact this
    ·exact s.clo _ _ h3 this
   have hj0:j < n0:=by
    rcases Nat.lt_or_ge j n0 with h | h
    ·exact h
    ·exact absurd (fun i hi=>hpre i (hlast i j hi h hlt)) hall
   have zK7:∀ i,sel (S.setIfInBounds j true) i->i < n0:=fun i hi=>by
    rcases (yP hjs).1 hi with rfl | h
    ·exact hj0
    ·exact s.sl i h
   have hu':unl ops (S.setIfInBounds j true)<=fuel:=by
    have:=qLS hlt s.size hnj;omega
   have zGD:=qL9 hjs s.clo hpre
   have hok':o.op.operands.toList.all (kV (zA f))=true:=by
    have h1:=kP (zI s.grow.le) hok;unfold uY at h1;exact zOJ.1 h1 o (zPP (toL ho))
   have hag:=q3Z (t.e hn) hn st s.clo s.sl ho (by omega) hnj hpre;have hlen:(qD4 ops S zE3 (En n0)).length=(En j).length:=by rw[j3,fV (t.e hn) hn j (by omega)]
   have hval:=qEK hag;have hwc:=qBF (ops:=ops) hlen hag;have hGf:=hG.mono s.grow.le;obtain⟨q1,q2,q3⟩:=qR5 t hn ho hj0;unfold wpOpIn;rw[ho];simp only
   -- the next stand
   have zMG:∃ p',p'<=n0∧zDR ops (S.setIfInBounds j true) p'∧(zB o=true->p'=j+1)∧(zB o=false->p'=p):=by
    cases he:zB o with
    | true =>
      refine⟨j+1,hj0,?_,fun _=>rfl,fun h=>(by cases h)⟩;intro k q hk hq;rw[yP hjs];by_cases hkj:k=j
      ·subst hkj;simp
      ·rcases qKF hal k j q o hkj hk ho hq he with h | h
       ·have:=vU st.back j k h;exact⟨fun _=>by omega,fun _=>.inr (hpre k h)⟩
       ·have:=vU st.back k j h;refine⟨fun hs=>?_,fun h2=>by omega⟩;rcases hs with hs | hs
        ·exact absurd hs hkj
        ·exact absurd (s.clo j k h hs) hnj
    | false =>
      refine⟨p,s.ple,?_,fun h=>(by cases h),fun _=>rfl⟩;intro k q hk hq;rw[yP hjs];have hkj:k≠j:=by intro e;subst e;rw[ho] at hk;cases hk;rw[he] at hq;cases hq
      simp only[hkj,false_or];exact s.cut k q hk hq
   have zGY:zB o=true->Hs p=Hs j:=fun he=>by
    have key:∀ k q,ops[k]?=some q->zB q=true->(k < p ↔ k < j):=fun k q hk hq=>by
     refine (s.cut k q hk hq).symm.trans ?_;by_cases hkj:k=j
     ·subst hkj;exact⟨fun h=>absurd h hnj,fun h=>absurd h (zRP _)⟩
     ·rcases qKF hal k j q o hkj hk ho hq he with h | h
      ·have:=vU st.back j k h;exact⟨fun _=>this,fun _=>hpre k h⟩
      ·have:=vU st.back k j h;exact⟨fun hs=>absurd (s.clo j k h hs) hnj,fun hlt=>by omega⟩
    by_cases hpj:p<=j
    ·exact qOW t hn hal (j - p) p j (by omega) (by omega) key
    ·exact (qOW t hn hal (p - j) j p (by omega) s.ple fun k q hk hq=>(key k q hk hq).symm).symm
   obtain⟨p',zJS,hcut',hpE,hpF⟩:=zMG;have zHF:=qQN (t.e hn) hn st ho hj0 hjs
   rcases q3 with ⟨g1,g2,g3,g4,g5⟩ | ⟨g1,g2,g3⟩
   ·rw[<-hwc] at g1;rw[xA s.zGG (rA s.env g1),if_pos rfl]
    -- the operation at this state
    have hx:∃ php,zN P tab (qH nm o.dst) o (qD4 ops S zE3 (En n0)) (Hs p)=.ok (V j) php∧php=Hs p':=by
     cases he:zB o with
     | true =>
       refine⟨Hs (j+1),?_,by rw[hpE he]⟩;rw[zGY he,aG hval];exact g2
     | false =>
       have d1:=(oO (nP he).1 (nP he).2 g2).1;refine⟨Hs p,?_,by rw[hpF he]⟩;rw[aG hval];rw[d1] at g2;have hFj:=g5 he;unfold mV at hck;rw[zOG] at hck;have zMH:=zOJ.1 hck.1 _ hFj
       have zK8:∀ k q,ops[k]?=some q->zB q=true->(¬ (k < p ↔ k < j))->∀ ws,(k,ws)∈E->(∀ l∈dlT o (En j),l ∉ ws)∨qZE ops.toList j k=true:=by
        intro k q hk hq hne ws hws;have:=zOJ.1 zMH _ hws;simp only[zPF,zPL,zOJ] at this;rcases this with h | h | h
        ·exfalso;have hsk:=s.cut k q hk hq;unfold qPY at h;rw[zPL] at h;rcases h with h | h
         ·have h1:=hpre k h;have h2:=vU st.back j k h;exact hne ⟨fun _=>h2,fun _=>hsk.1 h1⟩
         ·have h2:=vU st.back k j h;have h1:¬ sel S k:=fun hs=>hnj (s.clo j k h hs)
          exact hne ⟨fun hh=>absurd (hsk.2 hh) h1,fun hh=>by omega⟩
        ·exact .inr h
        ·refine .inl fun l hl hm=>?_
         have:=h l hl;simp[hm] at this
       by_cases hpj:p<=j
       ·refine ((qNQ t hn hal ho (nP he).1 (nP he).2 (j - p) p j (by omega) (by omega) fun k q h1 h2 hk hq ws hws=>?_) _ _).2 g2;exact zK8 k q hk hq (fun h=>by have:=h.2 h2;omega) ws hws
       ·refine ((qNQ t hn hal ho (nP he).1 (nP he).2 (p - j) j p (by omega) s.ple fun k q h1 h2 hk hq ws hws=>?_) _ _).1 g2;exact zK8 k q hk hq (fun h=>by have:=h.1 h2;omega) ws hws
    obtain⟨php,hx,rfl⟩:=hx
    have hfresh:needs o.op=true->fresh nm (qH nm o.dst) (qD4 ops S zE3 (En n0)) (Hs p)=true:=by
     intro hnd
     have he:zB o=true:=by
      unfold zB yS qL xM
      cases hop:o.op <;> rw[hop] at hnd <;> first | (cases hnd;done) | rfl | skip
      ·cases hg:o.guard.isNone <;> rfl
      ·rename_i c;obtain⟨cal,args,ts⟩:=c
       cases cal with
       | builtin b=>cases b <;> first | (cases hnd;done) | rfl
       | _=>cases hnd
     obtain⟨i1,i2,i3⟩:=g3 hnd;unfold fresh;rw[i1,zGY he,i2,zQS,zRQ];unfold mV at hck;rw[zOG] at hck;have hN:=zOJ.1 hck.2 _ i3;rw[zOG] at hN;refine qNP fun x=>?_
     rw[fJ hl];by_cases hw:wr ops S x
     ·rw[if_pos hw];obtain⟨i,oi,hi,hs,hd⟩:=hw;by_cases hx':x < zE3.length
      ·have hin:=(zOT.1 hi).1;rw[qQ7 (t.e hn) hn st hi hd hx' _ (zOI _) (s.sl i hs)];have hW:=zOJ.1 hN.2 _ (qR5 t hn hi (s.sl i hs)).2.1;simp only[zPF,zPL] at hW;rcases hW with h | h | h
       ·have:=zOH h;subst this;exact absurd hs hnj
       ·exact absurd (s.clo j i h hs) hnj
       ·exact h
      ·rw[oG (env:=En n0) (t:=x) (by rw[hl];exact zSJ hx')];rfl
     ·rw[if_neg hw];exact qTW hN.1 x
    refine qMF (nm:=nm) hF hns ht s.rel hGf s.zGG hok' s.hp s.hb s.env (qK7 hx) hfresh fun Z' m' u H' f' v' w' b1 b2 b3 b4 b5 k1 k2 k3=>?_
    refine ih _ _ _ hu' ⟨p',Z',H',m',f',zEZ.zFK o.dst u,by simp[s.size],zGD,hcut',zJS,zK7,k1,s.grow.trans k2,kY (s.zGG.mono k2.le) k3 _,by rw[put_defers];exact Marks.grow k2 _ s.marks,b1,by rw[b4.base];exact zO7 s.hb b4.size,?_,s.step.trans b4,s.kr.trans b5⟩;rw[zHF];exact b3.zFK b2 _
   ·rw[<-hwc] at g1;rw[xA s.zGG (rA s.env g1),if_neg (by simp)]
    have hpp:Hs p'=Hs p:=by
     cases he:zB o with
     | true=>rw[hpE he,g3,zGY he]
     | false=>rw[hpF he]
    have e1:=s.hp;have e2:=s.env;have e3:=s.step;have e4:=s.kr;rw[<-hpp] at e1 e2 e3 e4;refine⟨fun g _=>hF.fn g,ih _ _ _ hu' ⟨p',Z,H,m,f,zEZ.zFK o.dst undef,by simp[s.size],zGD,hcut',zJS,zK7,s.rel,s.grow,kY s.zGG .undef _,by rw[put_defers];exact s.marks,e1,s.hb,?_,e3,e4⟩⟩;rw[zHF,g2];exact e2.zFK (VRL.zHE (vs:=#[]) .nil) _
theorem qFR {F0:Fence}{K:Exit->Act->World->Prop}:∀ {fuel:Nat} {S:Array Bool} {a:Act} {w:World},S.size=ops.size->(∀ i,i < ops.size->sel S i)->K .normal a w->wpAnyIn F0 0 P .any ops K fuel S a w:=by
 intro fuel S a w hsz hall hk
 have hr:∀ x,x ∉ Region.ready .any ops S:=by
  intro x hx;rw[mem_ready] at hx;obtain⟨h1,o,ho,_⟩:=hx;have hlt:=(zOT.1 ho).1;have:=hall x hlt;unfold sel at this;rw[zOU,zOY (by rw[hsz];exact hlt)] at h1 this;simp only[zQL] at h1 this;rw[h1] at this;cases this
 cases fuel with
 | zero=>exact⟨List.eq_nil_iff_forall_not_mem.2 hr,hk⟩
 | succ fuel=>exact⟨fun _=>hk,fun j hj=>absurd hj (hr j)⟩
theorem zFT.zK9 (s:zFT P good nat G tab){env:List PV}{ph:PHp}{Qt:List PV->PHp->Prop}{B:Nat}(hn:n0<=ops.size)(hlast:∀ i j,i < n0->n0<=j->j < ops.size->vI (Region.before ops) i j=true)(hok:uY G ops=true)(hd:aF ops=true)(hal:fZ ops=true)
 (h:(qIW P tab nm (ops.toList.map (·.dst)) (dBo ops) env 0 (ops.toList.take n0) env ph [] [] [] []).holds P G Qt) {Z:Nat->Prop} {H:IH} {m:Nat->Nat} {zEZ:Env} {F:Fence} {f:Inj} {a:Act} {w:World} {K:Exit->Act->World->Prop}
 (hp:Hp P Z H (own m ph)) (hb:H.base<=H.size) (he:VRL P Z H (own m ph) env zEZ) (hF:aW F) (hR:Rel P f H w) (hG:uX G f) (zE6:qE P f zEZ a.tmps.toList) (hm:Marks B f w a.defers)
 (hdone:∀ (e:List PV) (p:PHp) (fuel:Nat) (S:Array Bool) (Z':Nat->Prop) (H':IH) (m':Nat->Nat) (f':Inj) (zFP:Env) (a':Act) (w':World),Qt e p->unl ops S<=fuel->S.size=ops.size->(∀ i,i < ops.size->(sel S i ↔ i < n0))->Rel P f' H' w'->Grow f H w f' H' w'->qE P f' zFP a'.tmps.toList->Marks B f' w' a'.defers->Hp P Z' H' (own m' p)->H'.base<=H'.size->VRL P Z' H' (own m' p) e zFP ->
   Step Z H (own m ph) Z' H' (own m' p)->KR (inP nm) (own m ph) (own m' p)->wpAnyIn F 0 P .any ops K fuel S a' w'):wpAnyIn F 0 P .any ops K ops.size (Array.replicate ops.size false) a { w with drawn:=w.drawn+1 }:=by
 obtain⟨En,Hs,V,E',F',N',W',t,_,_,_,_,hck,hq⟩:=qFF _ _ _ _ _ _ _ _ h;have st:=(qNO hd).z;have hl:(ops.toList.take n0).length=n0:=by simp;omega
 rw[hl] at hq;refine qSY (B:=B) hF s.s.spec s.t t hn hlast st hal hck (Z0:=Z) (H0:=H) (m0:=m) (f0:=f) (w0:=w) ?_ hG (kP hG hok) _ _ _ _ ?_ ⟨0,Z,H,m,f,zEZ,?_⟩
 ·intro fuel S Z' H' m' f' zFP a' w' k1 k2 k3 k4 k5 k6 k7 k8 k9 k10 k11 k12;exact hdone _ _ fuel S Z' H' m' f' zFP a' w' hq k1 k2 k3 k4 k5 k6 k7 k8 k9 k10 k11 k12
 ·unfold unl;have:=zSL (p:=fun j=>!(Array.replicate ops.size false).getD j false) (l:=List.range ops.size);simpa using this
 ·have hsel:∀ i,¬ sel (Array.replicate ops.size false) i:=by
   intro i h;unfold sel at h;rw[zOU,zR7] at h;split at h <;> simp at h
  have hcur:qD4 ops (Array.replicate ops.size false) env (En n0)=env:=by
   apply qCU (j3 _ _);intro x;rw[fJ (fV (t.e hn) hn _ (zOI _)),if_neg];rintro⟨j,o,_,h2,_⟩;exact hsel j h2
  have hw:Grow f H w f H { w with drawn:=w.drawn+1 }:=Grow.world rfl;have h0:=t.h0;refine⟨by simp,fun i j _ hj=>absurd hj (hsel j),fun j o _ _=>⟨fun h=>absurd h (hsel j),fun h=>by omega⟩,zQD _,fun i h=>absurd h (hsel i),hR.world rfl,hw,zE6,Marks.grow hw _ hm,by rw[h0];exact hp,hb,by rw[h0,hcur];exact he,by rw[h0];exact .refl _ _ _,by rw[h0];exact .refl _ _⟩
end
theorem zFT.drw (s:zFT P good nat G tab){id:Nat}{ops:Array Oper}{env:List PV}{ph:PHp}{Q:PQ}{ds:List (Option Tmp)}(hok:uY G ops=true)(hd:aF ops=true)(hal:fZ ops=true)(hds:ops.toList.map (·.dst)=ds)
 (h:(qIW P tab nm ds (dBo ops) env 0 ops.toList env ph [] [] [] []).holds P G fun e p=>Q .normal e p):Runs P G rd nm (.region id ops true) env ph Q:=by
 intro Z H m zEZ hp hb he B F f a w hF hr hR hG zE6 hm;subst hds;have ht:ops.toList.take ops.size=ops.toList:=by rw[<-zPU];exact zRA
 refine wpIn_region_any s.s.mix (s.zK9 (B:=B) (n0:=ops.size) (K:=jE P B f H w _) (zOI _) (fun i j _ h1 h2=>by omega) hok hd hal (by rw[ht];exact h) hp hb he hF hR hG zE6 hm ?_);intro e p fuel S Z' H' m' f' zFP a' w' hq k1 k2 k3 k4 k5 k6 k7 k8 k9 k10 k11 k12;exact qFR k2 (fun i hi=>(k3 i hi).2 hi) ⟨⟨.normal,zFP,H'⟩,f',⟨Z',m',e,p,k8,k10,k11,k12,hq⟩,rfl,k4,k5,k6,k7⟩
end Go.Idl
