/- Regions that draw their order, on values without a heap: whatever the order. Conditions: none. -/
import Derived.Test.YtdohendjiddokaaGreatDoorPur16
import Derived.OrdersIn
set_option linter.all false
namespace Go.Idl
variable [Gc]
variable {P:Program}{G:Nat->Bool}{nat:xJ}{tab:uZ}{nm:Nm}{good:FuncId->Bool}{rd:Bool}
structure zII (ops:Array Oper):Prop where
 back:∀ j o,ops[j]?=some o->∀ e∈o.after,Region.binds .any e=true->e.on < j
 dst:∀ (i j:Nat) (o p:Oper) (d:Tmp),i≠j->ops[i]?=some o->ops[j]?=some p->o.dst=some d->p.dst≠some d
 reads:∀ (i j:Nat) (o p:Oper) (d:Tmp),i≠j->ops[i]?=some o->ops[j]?=some p->o.dst=some d->d∈uO ops p ->
  vS (Region.before ops) i j=true∨(qL o=false∧vS (Region.before ops) j i=true)
theorem Stat.z {ops:Array Oper}(st:Stat ops):zII ops:=⟨st.back,st.dst,st.reads⟩
noncomputable def pat (env:List PV)(t:Nat):PV:=(zG env t).getD .unk
theorem rA {env:List PV}{t:Nat}(h:env.length<=t):pat env t=.unk:=by simp[pat,qF,zRB h]
theorem qH5 (env:List PV)(d:Option Tmp)(v:PV)(t:Nat):pat (yQ env d v) t=if d=some t∧t < env.length then v else pat env t:=by
 cases d with
 | none=>simp[yQ]
 | some d =>
   simp only[yQ,pat,qF,qW,zQW,zP7];by_cases h:d=t
   ·subst h;by_cases hl:d < env.length
    ·simp[hl]
    ·simp[hl]
   ·simp[h]
theorem qX9 (env:List PV)(d:Option Tmp)(v:PV):(yQ env d v).length=env.length:=by
 cases d with
 | none=>rfl
 | some d=>simp[yQ,qW]
theorem qWV {a b:List PV}(hl:a.length=b.length){t:Nat}(h:pat a t=pat b t):zG a t=zG b t:=by
 simp only[pat,qF] at h ⊢;by_cases ht:t < a.length
 ·rw[zP2 ht,zP2 (by omega)] at h ⊢;simpa using h
 ·rw[zRB (by omega),zRB (by omega)]
theorem qBO {a b:List PV}(hl:a.length=b.length)(h:∀ t,pat a t=pat b t):a=b:=by
 apply zRG;intro t;have:=qWV hl (h t)
 rwa [qF,qF] at this
section
variable {n0:Nat}{ops:Array Oper}{zGR:List PV}{ph0:PHp}{En:Nat->List PV}{Hs:Nat->PHp}{V:Nat->PV}{E F:List (Nat×List Nat)}{N:List (Nat×Nat)}{W:List (Nat×PV)}
theorem qTP {ds:List (Option Tmp)}{b:DB}(t:TrI P tab nm ds b (ops.toList.take n0) zGR ph0 En Hs V 0 E F N W)(hn:n0<=ops.size){i:Nat}{o:Oper}(h:ops[i]?=some o)(hi:i < n0) :
 En (i+1)=yQ (En i) o.dst (V i)∧(0+i,V i)∈W ∧
 ((vK ds o (En i)=some true∧zL P tab (qH nm o.dst) o (En i) (Hs i)=.ok (V i) (Hs (i+1))∧(needs o.op=true->inP nm (qH nm o.dst)=true∧aC (qH nm o.dst) (Hs i)=true∧(0+i,qH nm o.dst)∈N) ∧
    (qZ o=true->(0+i,wlT nm o (En i))∈E)∧(qZ o=false->(0+i,dlT o (En i))∈F)) ∨
   (vK ds o (En i)=some false∧V i=.tup []∧Hs (i+1)=Hs i)):=t.step i o (by rw[zTS hi];simpa using h)
structure TrE (n0:Nat) (ops:Array Oper) (zGR:List PV) (En:Nat->List PV) (V:Nat->PV):Prop where
 e0:En 0=zGR
 step:∀ i o,ops[i]?=some o->i < n0->En (i+1)=yQ (En i) o.dst (V i)
theorem TrI.e {ds:List (Option Tmp)}{b:DB}(t:TrI P tab nm ds b (ops.toList.take n0) zGR ph0 En Hs V 0 E F N W)(hn:n0<=ops.size):TrE n0 ops zGR En V:=⟨t.e0,fun i o h hi=>(qTP t hn h hi).1⟩
theorem aO (t:TrE n0 ops zGR En V)(hn:n0<=ops.size):∀ i,i<=n0->(En i).length=zGR.length
 | 0,_=>by rw[t.e0]
 | i+1,h=>by
   obtain⟨o,ho⟩:∃ o,ops[i]?=some o:=⟨_,zQF (by omega)⟩
   rw[t.step _ _ ho (by omega),qX9,aO t hn i (by omega)]
theorem qH4 (t:TrE n0 ops zGR En V)(hn:n0<=ops.size){x:Nat}:∀ i,i<=n0->(∀ k o,k < i->ops[k]?=some o->o.dst≠some x)->pat (En i) x=pat zGR x
 | 0,_,_=>by rw[t.e0]
 | i+1,h,hk=>by
   obtain⟨o,ho⟩:∃ o,ops[i]?=some o:=⟨_,zQF (by omega)⟩
   rw[t.step _ _ ho (by omega),qH5,if_neg (fun hc=>hk i o (by omega) ho hc.1)];exact qH4 t hn i (by omega) fun k o hk1=>hk k o (by omega)
theorem qT0 (t:TrE n0 ops zGR En V)(hn:n0<=ops.size)(st:zII ops){k x:Nat}{o:Oper}(ho:ops[k]?=some o)(hd:o.dst=some x)(hx:x < zGR.length):∀ i,i<=n0->k < i->pat (En i) x=V k
 | 0,_,h=>by omega
 | i+1,h,hk=>by
   obtain⟨p,hp⟩:∃ o,ops[i]?=some o:=⟨_,zQF (by omega)⟩
   rw[t.step _ _ hp (by omega),qH5];by_cases e:k=i
   ·subst e;rw[ho] at hp;cases hp;rw[if_pos ⟨hd,by rw[aO t hn k (by omega)];exact hx⟩]
   ·rw[if_neg (fun hc=>st.dst k i o p x e ho hp hd hc.1)];exact qT0 t hn st ho hd hx i (by omega) (by omega)
theorem qQJ {ds:List (Option Tmp)}{b:DB}(t:TrI P tab nm ds b (ops.toList.take n0) zGR ph0 En Hs V 0 E F N W)(hn:n0<=ops.size)(hal:aD ops=true){i:Nat}{o:Oper}(ho:ops[i]?=some o)(hi:i < n0)(he:qZ o=false):Hs (i+1)=Hs i:=by
 rcases (qTP t hn ho hi).2.2 with ⟨_,h,_⟩ | ⟨_,_,h⟩
 ·exact (pF (pX he).1 (pX he).2 h).1
 ·exact h
theorem qPO {ds:List (Option Tmp)}{b:DB}(t:TrI P tab nm ds b (ops.toList.take n0) zGR ph0 En Hs V 0 E F N W)(hn:n0<=ops.size)(hal:aD ops=true):∀ (n p q:Nat),q=p+n->q<=n0->(∀ k o,ops[k]?=some o->qZ o=true->(k < p ↔ k < q))->Hs p=Hs q
 | 0,p,q,hq,_,_=>by rw[hq];rfl
 | n+1,p,q,hq,hle,h=>by
   obtain⟨o,ho⟩:∃ o,ops[p]?=some o:=⟨_,zQF (by omega)⟩
   have he:qZ o=false:=by
    cases he:qZ o with
    | false=>rfl
    | true=>have:=h p o ho he;omega
   rw[<-qQJ t hn hal ho (by omega) he];refine qPO t hn hal n (p+1) q (by omega) hle fun k o' hk hk'=>?_
   have:=h k o' hk hk';constructor
   ·intro h1;omega
   ·intro h1;have:=this.2 h1;omega
theorem qHT {ds:List (Option Tmp)}{b:DB}(t:TrI P tab nm ds b (ops.toList.take n0) zGR ph0 En Hs V 0 E F N W)(hn:n0<=ops.size){x j:Nat}:∀ i,i<=n0->j<=i->(∀ k o,j<=k->k < i->ops[k]?=some o->o.dst≠some x)->pat (En i) x=pat (En j) x
 | i,h,hj,hk=>by
   by_cases e:j=i
   ·rw[e]
   ·cases i with
    | zero=>omega
    | succ i =>
      obtain⟨o,ho⟩:∃ o,ops[i]?=some o:=⟨_,zQF (by omega)⟩
      rw[(qTP t hn ho (by omega)).1,qH5,if_neg (fun hc=>hk i o (by omega) (by omega) ho hc.1)];exact qHT t hn i (by omega) (by omega) fun k o h1 h2=>hk k o h1 (by omega)
theorem qN5 {ds:List (Option Tmp)}{b:DB}(t:TrI P tab nm ds b (ops.toList.take n0) zGR ph0 En Hs V 0 E F N W)(hn:n0<=ops.size)(hal:aD ops=true){j:Nat}{oj:Oper}(hoj:ops[j]?=some oj)(hf:yT oj=false)(ha:qL oj=false):∀ (n p q:Nat),q=p+n->q<=n0 ->
 (∀ k o,p<=k->k < q->ops[k]?=some o->qZ o=true->∀ ws,(k,ws)∈E->(∀ l∈dlT oj (En j),l ∉ ws)∨q3Z ops.toList j k=true)->nG P tab oj (En j) (Hs p) (Hs q)
 | 0,p,q,hq,_,_=>by rw[hq];exact .refl _
 | n+1,p,q,hq,hle,h=>by
   obtain⟨o,ho⟩:∃ o,ops[p]?=some o:=⟨_,zQF (by omega)⟩
   have h1:nG P tab oj (En j) (Hs p) (Hs (p+1)):=by
    cases he:qZ o with
    | false=>rw[qQJ t hn hal ho (by omega) he];exact .refl _
    | true =>
      rcases (qTP t hn ho (by omega)).2.2 with ⟨_,hx,_,hE,_⟩ | ⟨_,_,hx⟩
      ·have hE:=hE he;rw[zQI] at hE;rcases h p o (zP0 _) (by omega) ho he _ hE with h2 | h2
       ·exact .tk hf ha fun l hl=>qUC hx (h2 l hl)
       ·have toL:∀ i:Nat,ops.toList[i]?=ops[i]?:=fun i=>zTF ..
        unfold q3Z at h2;rw[toL,toL,hoj,ho] at h2;simp only at h2;split at h2
        ·rename_i ty a c ty' a' c' e1 e2;simp only[zPY] at h2;obtain⟨⟨⟨⟨c1,c2⟩,c3⟩,c4⟩,c5⟩:=h2;cases zPZ c1;cases zPZ c2;cases zPZ c3;have hjp:j < p:=zP8 c4
         have nw:∀ k o,j<=k->k < p->ops[k]?=some o->o.dst≠some a∧o.dst≠some c:=fun k o k1 k2 k3=>by
          have:=zP1.1 c5 (o,k) (zSI.2 (by rw[toL];exact k3));have g1:Nat.ble j k=true:=zQH k1;have g2:Nat.blt k p=true:=zQH k2;simp only[g1,g2,zT2,zS9] at this
          cases hd:o.dst with
          | none=>exact⟨fun e=>by (cases e),fun e=>by (cases e)⟩
          | some d =>
            rw[hd] at this;simp only[zPY,zQX] at this;exact⟨fun e=>by cases e;rw[aJ] at this;exact absurd this.1 (by decide),fun e=>by cases e;rw[aJ] at this;exact absurd this.2 (by decide)⟩
         exact .look e1 e2 (qHT t hn p (by omega) (by omega) fun k o k1 k2 k3=>(nw k o k1 k2 k3).1) (qHT t hn p (by omega) (by omega) fun k o k1 k2 k3=>(nw k o k1 k2 k3).2) hx
        ·cases h2
      ·rw[hx];exact .refl _
   exact h1.trans (qN5 t hn hal hoj hf ha n (p+1) q (by omega) hle fun k o' hk1 hk2=>h k o' (by omega) hk2)
open Classical in
noncomputable def qE3 (ops:Array Oper)(S:Array Bool)(zGR eF:List PV):List PV:=(List.range zGR.length).map fun t=>if wr ops S t then pat eF t else pat zGR t
theorem vF (S:Array Bool)(eF:List PV):(qE3 ops S zGR eF).length=zGR.length:=by simp[qE3]
open Classical in
theorem gZ {S:Array Bool}{eF:List PV}(hl:eF.length=zGR.length)(t:Nat):pat (qE3 ops S zGR eF) t=if wr ops S t then pat eF t else pat zGR t:=by
 by_cases ht:t < zGR.length
 ·simp[qE3,pat,qF,zUJ ht]
 ·rw[rA (by rw[vF];omega),rA (by omega),rA (by omega)];simp
theorem q4I (t:TrE n0 ops zGR En V)(hn:n0<=ops.size)(st:zII ops){S:Array Bool}(zIG:Clo ops S)(hsl:∀ i,sel S i->i < n0){j:Nat}{o:Oper}(ho:ops[j]?=some o)(hjn0:j<=n0)(hj:¬ sel S j)(hp:∀ i,vS (Region.before ops) i j=true->sel S i) :
 ∀ x∈uO ops o,pat (qE3 ops S zGR (En n0)) x=pat (En j) x:=by
 intro x hx;have hjn:=(zQA.1 ho).1
 have before:∀ {k:Nat} {q:Oper},k≠j->ops[k]?=some q->q.dst=some x->vS (Region.before ops) k j=true∨vS (Region.before ops) j k=true:=fun hk hq hd=>by
  rcases st.reads _ j _ o x hk hq ho hd hx with h | ⟨_,h⟩
  ·exact .inl h
  ·exact .inr h
 rw[gZ (aO t hn _ (zP0 _))];by_cases hw:wr ops S x
 ·rw[if_pos hw];obtain⟨i,oi,hi,hs,hd⟩:=hw;have hij:i≠j:=fun e=>hj (e ▸ hs)
  have hb:vS (Region.before ops) i j=true:=by
   rcases before hij hi hd with h | h
   ·exact h
   ·exact absurd (zIG j i h hs) hj
  have hlt:=wD st.back j i hb;by_cases hx':x < zGR.length
  ·have:=hsl i hs;rw[qT0 t hn st hi hd hx' _ (zP0 _) (by omega),qT0 t hn st hi hd hx' j (by omega) hlt]
  ·rw[rA (env:=En n0) (t:=x) (by rw[aO t hn _ (zP0 _)];exact zSQ hx'),rA (env:=En j) (t:=x) (by rw[aO t hn j (by omega)];exact zSQ hx')]
 ·rw[if_neg hw];refine (qH4 t hn j (by omega) fun k q hk hq hd=>?_).symm;rcases before (by omega) hq hd with h | h
  ·exact hw ⟨k,q,hq,hp k h,hd⟩
  ·have:=wD st.back k j h;omega
theorem qQN (t:TrE n0 ops zGR En V)(hn:n0<=ops.size)(st:zII ops){S:Array Bool}{j:Nat}{o:Oper}(ho:ops[j]?=some o)(hj0:j < n0)(hjs:j < S.size) :
 qE3 ops (S.setIfInBounds j true) zGR (En n0)=yQ (qE3 ops S zGR (En n0)) o.dst (V j):=by
 have hl:=aO t hn _ (zP0 _);have hjn:=(zQA.1 ho).1;apply qBO
 ·rw[qX9,vF,vF]
 intro x;rw[qH5,vF,gZ hl,gZ hl];by_cases hd:o.dst=some x
 ·have hw:wr ops (S.setIfInBounds j true) x:=⟨j,o,ho,(yR hjs).2 (.inl rfl),hd⟩
  rw[if_pos hw];by_cases hx:x < zGR.length
  ·rw[if_pos ⟨hd,hx⟩,qT0 t hn st ho hd hx _ (zP0 _) hj0]
  ·rw[if_neg (c:=o.dst=some x∧x < zGR.length) (fun h=>hx h.2),rA (by omega),rA (by omega)];simp
 ·rw[if_neg (c:=o.dst=some x∧x < zGR.length) (fun h=>hd h.1)]
  have:wr ops (S.setIfInBounds j true) x ↔ wr ops S x:=by
   constructor
   ·rintro⟨i,oi,h1,h2,h3⟩;rcases (yR hjs).1 h2 with rfl | h2
    ·rw[ho] at h1;cases h1;exact absurd h3 hd
    ·exact⟨i,oi,h1,h2,h3⟩
   ·rintro⟨i,oi,h1,h2,h3⟩;exact⟨i,oi,h1,(yR hjs).2 (.inr h2),h3⟩
  by_cases hw:wr ops S x
  ·rw[if_pos hw,if_pos (this.2 hw)]
  ·rw[if_neg hw,if_neg (fun h=>hw (this.1 h))]
theorem qFK {o:Oper}{a c:List PV}(h:∀ t∈uO ops o,pat a t=pat c t):∀ x∈o.op.operands,qJ a x=qJ c x:=by
 intro x hx
 cases x with
 | tmp t=>exact h t (zRD _ (zSH.2 ⟨.tmp t,zRC.1 hx,rfl⟩))
 | _=>rfl
theorem qDB {o:Oper}{a c:List PV}(hl:a.length=c.length)(h:∀ t∈uO ops o,pat a t=pat c t):vK (ops.toList.map (·.dst)) o a=vK (ops.toList.map (·.dst)) o c:=by
 unfold vK;split
 ·rfl
 ·rename_i g w hg
  have hd:qS0 (ops.toList.map (·.dst)) g=(ops[g]?).bind (·.dst):=by
   unfold qS0;rw[zQD];have:ops.toList[g]?=ops[g]?:=by simp
   rw[this];cases ops[g]? <;> rfl
  unfold qPG;rw[hd]
  cases ht:(ops[g]?).bind (·.dst) with
  | none=>rfl
  | some t =>
    simp only;rw[qWV hl (h t (zRW _ (by rw[hg];simp[ht])))]
def zFX (ops:Array Oper)(S:Array Bool)(p:Nat):Prop:=∀ (j:Nat) (o:Oper),ops[j]?=some o->qZ o=true->(sel S j ↔ j < p)
structure zKC (P:Program) (B:Nat) (nm:Nm) (ops:Array Oper) (zGR:List PV) (n0:Nat) (En:Nat->List PV) (Hs:Nat->PHp) (Z0:Nat->Prop) (H0:IH) (m0:Nat->Nat) (ph0:PHp) (f0:Inj) (w0:World) (S:Array Bool) (a:Act) (w:World) (p:Nat) (Z:Nat->Prop) (H:IH) (m:Nat->Nat) (f:Inj) (zGN:Env):Prop where
 size:S.size=ops.size
 clo:Clo ops S
 cut:zFX ops S p
 ple:p<=n0
 sl:∀ i,sel S i->i < n0
 rel:Rel P f H w
 grow:Grow f0 H0 w0 f H w
 zH6:qD P f zGN a.tmps.toList
 marks:Marks B f w a.defers
 hp:Hp P Z H (own m (Hs p))
 hb:H.base<=H.size
 env:VRL P Z H (own m (Hs p)) (qE3 ops S zGR (En n0)) zGN
 step:Step Z0 H0 (own m0 ph0) Z H (own m (Hs p))
 kr:KR (inP nm) (own m0 ph0) (own m (Hs p))
theorem qM3 {k:Nat}:∀ {l:List PV},(∀ t,noK k (pat l t)=true)->yB k l=true
 | [],_=>rfl
 | x::l,h=>by
   simp only[yB,zPY];refine⟨h 0,qM3 fun t=>?_⟩;have:=h (t+1);exact this
theorem qYF {k:Nat}{l:List PV}(h:yB k l=true)(t:Nat):noK k (pat l t)=true:=by
 unfold pat;rw[qF]
 cases he:l[t]? with
 | none=>rfl
 | some x=>exact wI h he
theorem qS8 {B:Nat}{F0:Fence}(hF:bE F0)(hns:vW P G nat)(ht:qTB P nat tab)(t:TrI P tab nm (ops.toList.map (·.dst)) (dBo ops) (ops.toList.take n0) zGR ph0 En Hs V 0 E F N W)(hn:n0<=ops.size)(hlast:∀ i j,i < n0->n0<=j->j < ops.size->vS (Region.before ops) i j=true)(st:zII ops)(hal:aD ops=true)
 (hck:mV (dBo ops) zGR E F N W=true) {K:Exit->Act->World->Prop} {Z0:Nat->Prop} {H0:IH} {m0:Nat->Nat} {f0:Inj} {w0:World}
 (hdone:∀ (fuel:Nat) (S:Array Bool) (Z:Nat->Prop) (H:IH) (m:Nat->Nat) (f:Inj) (zGN:Env) (a:Act) (w:World),unl ops S<=fuel->S.size=ops.size->(∀ i,i < ops.size->(sel S i ↔ i < n0))->Rel P f H w->Grow f0 H0 w0 f H w->qD P f zGN a.tmps.toList->Marks B f w a.defers->Hp P Z H (own m (Hs n0))->H.base<=H.size->VRL P Z H (own m (Hs n0)) (En n0) zGN ->
   Step Z0 H0 (own m0 ph0) Z H (own m (Hs n0))->KR (inP nm) (own m0 ph0) (own m (Hs n0))->wpAnyIn F0 0 P .any ops K fuel S a w)
 (hG:gG G f0) (hok:gF (qX f0) ops=true) :
 ∀ (fuel:Nat) (S:Array Bool) (a:Act) (w:World),unl ops S<=fuel->(∃ p Z H m f zGN,zKC P B nm ops zGR n0 En Hs Z0 H0 m0 ph0 f0 w0 S a w p Z H m f zGN)->wpAnyIn F0 0 P .any ops K fuel S a w:=by
 intro fuel;have hl:=aO (t.e hn) hn _ (zP0 _)
 have zHJ:∀ {S:Array Bool},S.size=ops.size->Region.ready .any ops S=[]->∀ j,j < ops.size->sel S j:=by
  intro S hsz hr j
  induction j using Nat.strongRecOn with
  | _ j ih =>
    intro hj;by_cases hs:sel S j
    ·exact hs
    ·exfalso
     have:j∈Region.ready .any ops S:=by
      rw[mem_ready];refine⟨?_,ops[j],by simp[hj],fun e he hb=>?_⟩
      ·unfold sel at hs;rw[zQE] at hs ⊢;rw[zQF (by omega)] at hs ⊢;simpa using hs
      ·have hlt:=st.back j ops[j] (by simp[hj]) e he hb;exact ih e.on hlt (by omega)
     rw[hr] at this;cases this
 have done:∀ {fuel:Nat} {S:Array Bool} {a:Act} {w:World} {p:Nat} {Z:Nat->Prop} {H:IH} {m:Nat->Nat} {f:Inj} {zGN:Env},unl ops S<=fuel->zKC P B nm ops zGR n0 En Hs Z0 H0 m0 ph0 f0 w0 S a w p Z H m f zGN->(∀ j,j < n0->sel S j)->wpAnyIn F0 0 P .any ops K fuel S a w:=by
  intro fuel S a w p Z H m f zGN hu s hall;have hcut:∀ k o,ops[k]?=some o->qZ o=true->(k < p ↔ k < n0):=fun k o hk he=>(s.cut k o hk he).symm.trans ⟨fun h=>s.sl k h,fun h=>hall k h⟩
  have hpe:Hs p=Hs n0:=qPO t hn hal (n0 - p) p n0 (by have:=s.ple;omega) (zP0 _) hcut
  have hcur:qE3 ops S zGR (En n0)=En n0:=by
   apply qBO
   ·rw[vF,hl]
   intro x;rw[gZ hl];by_cases hw:wr ops S x
   ·rw[if_pos hw]
   ·rw[if_neg hw];exact (qH4 (t.e hn) hn _ (zP0 _) fun k o hk ho hd=>hw ⟨k,o,ho,hall k hk,hd⟩).symm
  have e1:=s.hp;have e2:=s.env;have e3:=s.step;have e4:=s.kr;rw[hpe] at e1 e2 e3 e4;rw[hcur] at e2;exact hdone fuel S Z H m f zGN a w hu s.size (fun i _=>⟨s.sl i,hall i⟩) s.rel s.grow s.zH6 s.marks e1 s.hb e2 e3 e4
 induction fuel with
 | zero =>
   rintro S a w hu ⟨p,Z,H,m,f,zGN,s⟩
   have hall:∀ j,j < n0->sel S j:=by
    intro j hj;have hz:unl ops S=0:=by omega
    unfold unl at hz;have:=zTM.1 hz j (zS0.2 (by omega));unfold sel;simpa using this
   exact done hu s hall
 | succ fuel ih =>
   rintro S a w hu ⟨p,Z,H,m,f,zGN,s⟩;by_cases hall:∀ j,j < n0->sel S j
   ·exact done hu s hall
   refine⟨fun hrd=>absurd (fun j hj=>zHJ s.size hrd j (by omega)) hall,fun j hj=>?_⟩;rw[mem_ready] at hj;obtain⟨hjl,o,ho,zI3⟩:=hj;have hlt:=(zQA.1 ho).1;have hjs:j < S.size:=by rw[s.size];exact hlt
   have hnj:¬ sel S j:=by
    unfold sel;rw[zQE,zQF hjs] at hjl ⊢;simp only[zR5] at hjl ⊢;rw[hjl];simp
   have hpre:∀ i,vS (Region.before ops) i j=true->sel S i:=by
    intro i hb;obtain⟨e,he,hbd,h3⟩:=(qIA st.back ho).1 hb;have:=zI3 e he hbd;rcases h3 with rfl | h3
    ·exact this
    ·exact s.clo _ _ h3 this
   have hj0:j < n0:=by
    rcases Nat.lt_or_ge j n0 with h | h
    ·exact h
    ·exact absurd (fun i hi=>hpre i (hlast i j hi h hlt)) hall
   have zMT:∀ i,sel (S.setIfInBounds j true) i->i < n0:=fun i hi=>by
    rcases (yR hjs).1 hi with rfl | h
    ·exact hj0
    ·exact s.sl i h
   have hu':unl ops (S.setIfInBounds j true)<=fuel:=by
    have:=qON hlt s.size hnj;omega
   have zH3:=qM4 hjs s.clo hpre
   have hok':o.op.operands.toList.all (jC (qX f))=true:=by
    have h1:=jB (zF s.grow.le) hok;unfold gF at h1;exact zP1.1 h1 o (zQ7 (toL ho))
   have hag:=q4I (t.e hn) hn st s.clo s.sl ho (by omega) hnj hpre;have hlen:(qE3 ops S zGR (En n0)).length=(En j).length:=by rw[vF,aO (t.e hn) hn j (by omega)]
   have hval:=qFK hag;have hwc:=qDB (ops:=ops) hlen hag;have hGf:=hG.mono s.grow.le;obtain⟨q1,q2,q3⟩:=qTP t hn ho hj0;unfold wpOpIn;rw[ho];simp only
   -- the next stand
   have zN1:∃ p',p'<=n0∧zFX ops (S.setIfInBounds j true) p'∧(qZ o=true->p'=j+1)∧(qZ o=false->p'=p):=by
    cases he:qZ o with
    | true =>
      refine⟨j+1,hj0,?_,fun _=>rfl,fun h=>(by cases h)⟩;intro k q hk hq;rw[yR hjs];by_cases hkj:k=j
      ·subst hkj;simp
      ·rcases qK5 hal k j q o hkj hk ho hq he with h | h
       ·have:=wD st.back j k h;exact⟨fun _=>by omega,fun _=>.inr (hpre k h)⟩
       ·have:=wD st.back k j h;refine⟨fun hs=>?_,fun h2=>by omega⟩;rcases hs with hs | hs
        ·exact absurd hs hkj
        ·exact absurd (s.clo j k h hs) hnj
    | false =>
      refine⟨p,s.ple,?_,fun h=>(by cases h),fun _=>rfl⟩;intro k q hk hq;rw[yR hjs];have hkj:k≠j:=by intro e;subst e;rw[ho] at hk;cases hk;rw[he] at hq;cases hq
      simp only[hkj,false_or];exact s.cut k q hk hq
   have zIP:qZ o=true->Hs p=Hs j:=fun he=>by
    have key:∀ k q,ops[k]?=some q->qZ q=true->(k < p ↔ k < j):=fun k q hk hq=>by
     refine (s.cut k q hk hq).symm.trans ?_;by_cases hkj:k=j
     ·subst hkj;exact⟨fun h=>absurd h hnj,fun h=>absurd h (zTA _)⟩
     ·rcases qK5 hal k j q o hkj hk ho hq he with h | h
      ·have:=wD st.back j k h;exact⟨fun _=>this,fun _=>hpre k h⟩
      ·have:=wD st.back k j h;exact⟨fun hs=>absurd (s.clo j k h hs) hnj,fun hlt=>by omega⟩
    by_cases hpj:p<=j
    ·exact qPO t hn hal (j - p) p j (by omega) (by omega) key
    ·exact (qPO t hn hal (p - j) j p (by omega) s.ple fun k q hk hq=>(key k q hk hq).symm).symm
   obtain⟨p',zLM,hcut',hpE,hpF⟩:=zN1;have zI6:=qQN (t.e hn) hn st ho hj0 hjs
   rcases q3 with ⟨g1,g2,g3,g4,g5⟩ | ⟨g1,g2,g3⟩
   ·rw[<-hwc] at g1;rw[xB s.zH6 (rY s.env g1),if_pos rfl]
    -- the operation at this state
    have hx:∃ php,zL P tab (qH nm o.dst) o (qE3 ops S zGR (En n0)) (Hs p)=.ok (V j) php∧php=Hs p':=by
     cases he:qZ o with
     | true =>
       refine⟨Hs (j+1),?_,by rw[hpE he]⟩;rw[zIP he,aR hval];exact g2
     | false =>
       have d1:=(pF (pX he).1 (pX he).2 g2).1;refine⟨Hs p,?_,by rw[hpF he]⟩;rw[aR hval];rw[d1] at g2;have hFj:=g5 he;unfold mV at hck;rw[zPY] at hck;have zN2:=zP1.1 hck.1 _ hFj
       have zMU:∀ k q,ops[k]?=some q->qZ q=true->(¬ (k < p ↔ k < j))->∀ ws,(k,ws)∈E->(∀ l∈dlT o (En j),l ∉ ws)∨q3Z ops.toList j k=true:=by
        intro k q hk hq hne ws hws;have:=zP1.1 zN2 _ hws;simp only[zQI,zQ2,zP1] at this;rcases this with h | h | h
        ·exfalso;have hsk:=s.cut k q hk hq;unfold qRR at h;rw[zQ2] at h;rcases h with h | h
         ·have h1:=hpre k h;have h2:=wD st.back j k h;exact hne ⟨fun _=>h2,fun _=>hsk.1 h1⟩
         ·have h2:=wD st.back k j h;have h1:¬ sel S k:=fun hs=>hnj (s.clo j k h hs)
          exact hne ⟨fun hh=>absurd (hsk.2 hh) h1,fun hh=>by omega⟩
        ·exact .inr h
        ·refine .inl fun l hl hm=>?_
         have:=h l hl;simp[hm] at this
       by_cases hpj:p<=j
       ·refine ((qN5 t hn hal ho (pX he).1 (pX he).2 (j - p) p j (by omega) (by omega) fun k q h1 h2 hk hq ws hws=>?_) _ _).2 g2;exact zMU k q hk hq (fun h=>by have:=h.2 h2;omega) ws hws
       ·refine ((qN5 t hn hal ho (pX he).1 (pX he).2 (p - j) j p (by omega) s.ple fun k q h1 h2 hk hq ws hws=>?_) _ _).1 g2;exact zMU k q hk hq (fun h=>by have:=h.1 h2;omega) ws hws
    obtain⟨php,hx,rfl⟩:=hx
    have hfresh:needs o.op=true->fresh nm (qH nm o.dst) (qE3 ops S zGR (En n0)) (Hs p)=true:=by
     intro hnd
     have he:qZ o=true:=by
      unfold qZ yT qL xQ
      cases hop:o.op <;> rw[hop] at hnd <;> first | (cases hnd;done) | rfl | skip
      ·cases hg:o.guard.isNone <;> rfl
      ·rename_i c;obtain⟨cal,args,ts⟩:=c
       cases cal with
       | builtin b=>cases b <;> first | (cases hnd;done) | rfl
       | _=>cases hnd
     obtain⟨i1,i2,i3⟩:=g3 hnd;unfold fresh;rw[i1,zIP he,i2,zSC,zUQ];unfold mV at hck;rw[zPY] at hck;have hN:=zP1.1 hck.2 _ i3;rw[zPY] at hN;refine qM3 fun x=>?_
     rw[gZ hl];by_cases hw:wr ops S x
     ·rw[if_pos hw];obtain⟨i,oi,hi,hs,hd⟩:=hw;by_cases hx':x < zGR.length
      ·have hin:=(zQA.1 hi).1;rw[qT0 (t.e hn) hn st hi hd hx' _ (zP0 _) (s.sl i hs)];have hW:=zP1.1 hN.2 _ (qTP t hn hi (s.sl i hs)).2.1;simp only[zQI,zQ2] at hW;rcases hW with h | h | h
       ·have:=zPZ h;subst this;exact absurd hs hnj
       ·exact absurd (s.clo j i h hs) hnj
       ·exact h
      ·rw[rA (env:=En n0) (t:=x) (by rw[hl];exact zSQ hx')];rfl
     ·rw[if_neg hw];exact qYF hN.1 x
    refine qM8 (nm:=nm) hF hns ht s.rel hGf s.zH6 hok' s.hp s.hb s.env (qLI hx) hfresh fun Z' m' u H' f' v' w' b1 b2 b3 b4 b5 k1 k2 k3=>?_
    refine ih _ _ _ hu' ⟨p',Z',H',m',f',zGN.zG9 o.dst u,by simp[s.size],zH3,hcut',zLM,zMT,k1,s.grow.trans k2,jH (s.zH6.mono k2.le) k3 _,by rw[put_defers];exact Marks.grow k2 _ s.marks,b1,by rw[b4.base];exact zQM s.hb b4.size,?_,s.step.trans b4,s.kr.trans b5⟩;rw[zI6];exact b3.zG9 b2 _
   ·rw[<-hwc] at g1;rw[xB s.zH6 (rY s.env g1),if_neg (by simp)]
    have hpp:Hs p'=Hs p:=by
     cases he:qZ o with
     | true=>rw[hpE he,g3,zIP he]
     | false=>rw[hpF he]
    have e1:=s.hp;have e2:=s.env;have e3:=s.step;have e4:=s.kr;rw[<-hpp] at e1 e2 e3 e4;refine⟨fun g _=>hF.fn g,ih _ _ _ hu' ⟨p',Z,H,m,f,zGN.zG9 o.dst undef,by simp[s.size],zH3,hcut',zLM,zMT,s.rel,s.grow,jH s.zH6 .undef _,by rw[put_defers];exact s.marks,e1,s.hb,?_,e3,e4⟩⟩;rw[zI6,g2];exact e2.zG9 (VRL.zI5 (vs:=#[]) .nil) _
theorem qIG {F0:Fence}{K:Exit->Act->World->Prop}:∀ {fuel:Nat} {S:Array Bool} {a:Act} {w:World},S.size=ops.size->(∀ i,i < ops.size->sel S i)->K .normal a w->wpAnyIn F0 0 P .any ops K fuel S a w:=by
 intro fuel S a w hsz hall hk
 have hr:∀ x,x ∉ Region.ready .any ops S:=by
  intro x hx;rw[mem_ready] at hx;obtain⟨h1,o,ho,_⟩:=hx;have hlt:=(zQA.1 ho).1;have:=hall x hlt;unfold sel at this;rw[zQE,zQF (by rw[hsz];exact hlt)] at h1 this;simp only[zR5] at h1 this;rw[h1] at this;cases this
 cases fuel with
 | zero=>exact⟨List.eq_nil_iff_forall_not_mem.2 hr,hk⟩
 | succ fuel=>exact⟨fun _=>hk,fun j hj=>absurd hj (hr j)⟩
theorem zHK.zMV (s:zHK P good nat G tab){env:List PV}{ph:PHp}{Qt:List PV->PHp->Prop}{B:Nat}(hn:n0<=ops.size)(hlast:∀ i j,i < n0->n0<=j->j < ops.size->vS (Region.before ops) i j=true)(hok:gF G ops=true)(hd:aI ops=true)(hal:aD ops=true)
 (h:(qJ6 P tab nm (ops.toList.map (·.dst)) (dBo ops) env 0 (ops.toList.take n0) env ph [] [] [] []).holds P G Qt) {Z:Nat->Prop} {H:IH} {m:Nat->Nat} {zGN:Env} {F:Fence} {f:Inj} {a:Act} {w:World} {K:Exit->Act->World->Prop}
 (hp:Hp P Z H (own m ph)) (hb:H.base<=H.size) (he:VRL P Z H (own m ph) env zGN) (hF:bE F) (hR:Rel P f H w) (hG:gG G f) (zGV:qD P f zGN a.tmps.toList) (hm:Marks B f w a.defers)
 (hdone:∀ (e:List PV) (p:PHp) (fuel:Nat) (S:Array Bool) (Z':Nat->Prop) (H':IH) (m':Nat->Nat) (f':Inj) (zHG:Env) (a':Act) (w':World),Qt e p->unl ops S<=fuel->S.size=ops.size->(∀ i,i < ops.size->(sel S i ↔ i < n0))->Rel P f' H' w'->Grow f H w f' H' w'->qD P f' zHG a'.tmps.toList->Marks B f' w' a'.defers->Hp P Z' H' (own m' p)->H'.base<=H'.size->VRL P Z' H' (own m' p) e zHG ->
   Step Z H (own m ph) Z' H' (own m' p)->KR (inP nm) (own m ph) (own m' p)->wpAnyIn F 0 P .any ops K fuel S a' w'):wpAnyIn F 0 P .any ops K ops.size (Array.replicate ops.size false) a { w with drawn:=w.drawn+1 }:=by
 obtain⟨En,Hs,V,E',F',N',W',t,_,_,_,_,hck,hq⟩:=qHR _ _ _ _ _ _ _ _ h;have st:=(qN2 hd).z;have hl:(ops.toList.take n0).length=n0:=by simp;omega
 rw[hl] at hq;refine qS8 (B:=B) hF s.s.spec s.t t hn hlast st hal hck (Z0:=Z) (H0:=H) (m0:=m) (f0:=f) (w0:=w) ?_ hG (jB hG hok) _ _ _ _ ?_ ⟨0,Z,H,m,f,zGN,?_⟩
 ·intro fuel S Z' H' m' f' zHG a' w' k1 k2 k3 k4 k5 k6 k7 k8 k9 k10 k11 k12;exact hdone _ _ fuel S Z' H' m' f' zHG a' w' hq k1 k2 k3 k4 k5 k6 k7 k8 k9 k10 k11 k12
 ·unfold unl;have:=zT6 (p:=fun j=>!(Array.replicate ops.size false).getD j false) (l:=List.range ops.size);simpa using this
 ·have hsel:∀ i,¬ sel (Array.replicate ops.size false) i:=by
   intro i h;unfold sel at h;rw[zQE,zTQ] at h;split at h <;> simp at h
  have hcur:qE3 ops (Array.replicate ops.size false) env (En n0)=env:=by
   apply qBO (vF _ _);intro x;rw[gZ (aO (t.e hn) hn _ (zP0 _)),if_neg];rintro⟨j,o,_,h2,_⟩;exact hsel j h2
  have hw:Grow f H w f H { w with drawn:=w.drawn+1 }:=Grow.world rfl;have h0:=t.h0;refine⟨by simp,fun i j _ hj=>absurd hj (hsel j),fun j o _ _=>⟨fun h=>absurd h (hsel j),fun h=>by omega⟩,zR1 _,fun i h=>absurd h (hsel i),hR.world rfl,hw,zGV,Marks.grow hw _ hm,by rw[h0];exact hp,hb,by rw[h0,hcur];exact he,by rw[h0];exact .refl _ _ _,by rw[h0];exact .refl _ _⟩
end
theorem zHK.drw (s:zHK P good nat G tab){id:Nat}{ops:Array Oper}{env:List PV}{ph:PHp}{Q:PQ}{ds:List (Option Tmp)}(hok:gF G ops=true)(hd:aI ops=true)(hal:aD ops=true)(hds:ops.toList.map (·.dst)=ds)
 (h:(qJ6 P tab nm ds (dBo ops) env 0 ops.toList env ph [] [] [] []).holds P G fun e p=>Q .normal e p):Runs P G rd nm (.region id ops true) env ph Q:=by
 intro Z H m zGN hp hb he B F f a w hF hr hR hG zGV hm;subst hds;have ht:ops.toList.take ops.size=ops.toList:=by rw[<-zQ1];exact zSR
 refine wpIn_region_any s.s.mix (s.zMV (B:=B) (n0:=ops.size) (K:=jO P B f H w _) (zP0 _) (fun i j _ h1 h2=>by omega) hok hd hal (by rw[ht];exact h) hp hb he hF hR hG zGV hm ?_);intro e p fuel S Z' H' m' f' zHG a' w' hq k1 k2 k3 k4 k5 k6 k7 k8 k9 k10 k11 k12;exact qIG k2 (fun i hi=>(k3 i hi).2 hi) ⟨⟨.normal,zHG,H'⟩,f',⟨Z',m',e,p,k8,k10,k11,k12,hq⟩,rfl,k4,k5,k6,k7⟩
end Go.Idl
