/- Regions that draw their order, on values without a heap: whatever the order. Conditions: none. -/
import Derived.Test.YtpnecffgnjijjaaGreatDoorPur16
import Derived.OrdersIn
set_option linter.all false
namespace Go.Idl
variable [Gc]
variable {P:Program}{G:Nat->Bool}{nat:xA}{tab:uQ}{nm:Nm}{good:FuncId->Bool}{rd:Bool}
structure zG0 (ops:Array Oper):Prop where
 back:∀ j o,ops[j]?=some o->∀ e∈o.after,Region.binds .any e=true->e.on < j
 dst:∀ (i j:Nat) (o p:Oper) (d:Tmp),i≠j->ops[i]?=some o->ops[j]?=some p->o.dst=some d->p.dst≠some d
 reads:∀ (i j:Nat) (o p:Oper) (d:Tmp),i≠j->ops[i]?=some o->ops[j]?=some p->o.dst=some d->d∈uE ops p ->
  vH (Region.before ops) i j=true∨(qL o=false∧vH (Region.before ops) j i=true)
theorem Stat.z {ops:Array Oper}(st:Stat ops):zG0 ops:=⟨st.back,st.dst,st.reads⟩
noncomputable def pat (env:List PV)(t:Nat):PV:=(zJ env t).getD .unk
theorem oD {env:List PV}{t:Nat}(h:env.length<=t):pat env t=.unk:=by simp[pat,qG,zOF h]
theorem qFM (env:List PV)(d:Option Tmp)(v:PV)(t:Nat):pat (yL env d v) t=if d=some t∧t < env.length then v else pat env t:=by
 cases d with
 | none=>simp[yL]
 | some d =>
   simp only[yL,pat,qG,qV,zNU,zM7];by_cases h:d=t
   ·subst h;by_cases hl:d < env.length
    ·simp[hl]
    ·simp[hl]
   ·simp[h]
theorem qUS (env:List PV)(d:Option Tmp)(v:PV):(yL env d v).length=env.length:=by
 cases d with
 | none=>rfl
 | some d=>simp[yL,qV]
theorem qYN {a b:List PV}(hl:a.length=b.length){t:Nat}(h:pat a t=pat b t):zJ a t=zJ b t:=by
 simp only[pat,qG] at h ⊢;by_cases ht:t < a.length
 ·rw[zM2 ht,zM2 (by omega)] at h ⊢;simpa using h
 ·rw[zOF (by omega),zOF (by omega)]
theorem qBZ {a b:List PV}(hl:a.length=b.length)(h:∀ t,pat a t=pat b t):a=b:=by
 apply zOI;intro t;have:=qYN hl (h t)
 rwa [qG,qG] at this
section
variable {n0:Nat}{ops:Array Oper}{zFE:List PV}{ph0:PHp}{En:Nat->List PV}{Hs:Nat->PHp}{V:Nat->PV}{E F:List (Nat×List Nat)}{N:List (Nat×Nat)}{W:List (Nat×PV)}
theorem qRR {ds:List (Option Tmp)}{b:DB}(t:TrI P tab nm ds b (ops.toList.take n0) zFE ph0 En Hs V 0 E F N W)(hn:n0<=ops.size){i:Nat}{o:Oper}(h:ops[i]?=some o)(hi:i < n0) :
 En (i+1)=yL (En i) o.dst (V i)∧(0+i,V i)∈W ∧
 ((j5 ds o (En i)=some true∧zL P tab (qH nm o.dst) o (En i) (Hs i)=.ok (V i) (Hs (i+1))∧(needs o.op=true->inP nm (qH nm o.dst)=true∧gZ (qH nm o.dst) (Hs i)=true∧(0+i,qH nm o.dst)∈N) ∧
    (qY o=true->(0+i,wlT nm o (En i))∈E)∧(qY o=false->(0+i,dlT o (En i))∈F)) ∨
   (j5 ds o (En i)=some false∧V i=.tup []∧Hs (i+1)=Hs i)):=t.step i o (by rw[List.getElem?_take_of_lt hi];simpa using h)
structure TrE (n0:Nat) (ops:Array Oper) (zFE:List PV) (En:Nat->List PV) (V:Nat->PV):Prop where
 e0:En 0=zFE
 step:∀ i o,ops[i]?=some o->i < n0->En (i+1)=yL (En i) o.dst (V i)
theorem TrI.e {ds:List (Option Tmp)}{b:DB}(t:TrI P tab nm ds b (ops.toList.take n0) zFE ph0 En Hs V 0 E F N W)(hn:n0<=ops.size):TrE n0 ops zFE En V:=⟨t.e0,fun i o h hi=>(qRR t hn h hi).1⟩
theorem fT (t:TrE n0 ops zFE En V)(hn:n0<=ops.size):∀ i,i<=n0->(En i).length=zFE.length
 | 0,_=>by rw[t.e0]
 | i+1,h=>by
   obtain⟨o,ho⟩:∃ o,ops[i]?=some o:=⟨_,zNG (by omega)⟩
   rw[t.step _ _ ho (by omega),qUS,fT t hn i (by omega)]
theorem qFH (t:TrE n0 ops zFE En V)(hn:n0<=ops.size){x:Nat}:∀ i,i<=n0->(∀ k o,k < i->ops[k]?=some o->o.dst≠some x)->pat (En i) x=pat zFE x
 | 0,_,_=>by rw[t.e0]
 | i+1,h,hk=>by
   obtain⟨o,ho⟩:∃ o,ops[i]?=some o:=⟨_,zNG (by omega)⟩
   rw[t.step _ _ ho (by omega),qFM,if_neg (fun hc=>hk i o (by omega) ho hc.1)];exact qFH t hn i (by omega) fun k o hk1=>hk k o (by omega)
theorem qRA (t:TrE n0 ops zFE En V)(hn:n0<=ops.size)(st:zG0 ops){k x:Nat}{o:Oper}(ho:ops[k]?=some o)(hd:o.dst=some x)(hx:x < zFE.length):∀ i,i<=n0->k < i->pat (En i) x=V k
 | 0,_,h=>by omega
 | i+1,h,hk=>by
   obtain⟨p,hp⟩:∃ o,ops[i]?=some o:=⟨_,zNG (by omega)⟩
   rw[t.step _ _ hp (by omega),qFM];by_cases e:k=i
   ·subst e;rw[ho] at hp;cases hp;rw[if_pos ⟨hd,by rw[fT t hn k (by omega)];exact hx⟩]
   ·rw[if_neg (fun hc=>st.dst k i o p x e ho hp hd hc.1)];exact qRA t hn st ho hd hx i (by omega) (by omega)
theorem qQF {ds:List (Option Tmp)}{b:DB}(t:TrI P tab nm ds b (ops.toList.take n0) zFE ph0 En Hs V 0 E F N W)(hn:n0<=ops.size)(hal:fV ops=true){i:Nat}{o:Oper}(ho:ops[i]?=some o)(hi:i < n0)(he:qY o=false):Hs (i+1)=Hs i:=by
 rcases (qRR t hn ho hi).2.2 with ⟨_,h,_⟩ | ⟨_,_,h⟩
 ·exact (oM (mV he).1 (mV he).2 h).1
 ·exact h
theorem qPM {ds:List (Option Tmp)}{b:DB}(t:TrI P tab nm ds b (ops.toList.take n0) zFE ph0 En Hs V 0 E F N W)(hn:n0<=ops.size)(hal:fV ops=true):∀ (n p q:Nat),q=p+n->q<=n0->(∀ k o,ops[k]?=some o->qY o=true->(k < p ↔ k < q))->Hs p=Hs q
 | 0,p,q,hq,_,_=>by rw[hq];rfl
 | n+1,p,q,hq,hle,h=>by
   obtain⟨o,ho⟩:∃ o,ops[p]?=some o:=⟨_,zNG (by omega)⟩
   have he:qY o=false:=by
    cases he:qY o with
    | false=>rfl
    | true=>have:=h p o ho he;omega
   rw[<-qQF t hn hal ho (by omega) he];refine qPM t hn hal n (p+1) q (by omega) hle fun k o' hk hk'=>?_
   have:=h k o' hk hk';constructor
   ·intro h1;omega
   ·intro h1;have:=this.2 h1;omega
theorem qFL {ds:List (Option Tmp)}{b:DB}(t:TrI P tab nm ds b (ops.toList.take n0) zFE ph0 En Hs V 0 E F N W)(hn:n0<=ops.size){x j:Nat}:∀ i,i<=n0->j<=i->(∀ k o,j<=k->k < i->ops[k]?=some o->o.dst≠some x)->pat (En i) x=pat (En j) x
 | i,h,hj,hk=>by
   by_cases e:j=i
   ·rw[e]
   ·cases i with
    | zero=>omega
    | succ i =>
      obtain⟨o,ho⟩:∃ o,ops[i]?=some o:=⟨_,zNG (by omega)⟩
      rw[(qRR t hn ho (by omega)).1,qFM,if_neg (fun hc=>hk i o (by omega) (by omega) ho hc.1)];exact qFL t hn i (by omega) (by omega) fun k o h1 h2=>hk k o h1 (by omega)
theorem qND {ds:List (Option Tmp)}{b:DB}(t:TrI P tab nm ds b (ops.toList.take n0) zFE ph0 En Hs V 0 E F N W)(hn:n0<=ops.size)(hal:fV ops=true){j:Nat}{oj:Oper}(hoj:ops[j]?=some oj)(hf:yR oj=false)(ha:qL oj=false):∀ (n p q:Nat),q=p+n->q<=n0 ->
 (∀ k o,p<=k->k < q->ops[k]?=some o->qY o=true->∀ ws,(k,ws)∈E->(∀ l∈dlT oj (En j),l ∉ ws)∨qZU ops.toList j k=true)->sI P tab oj (En j) (Hs p) (Hs q)
 | 0,p,q,hq,_,_=>by rw[hq];exact .refl _
 | n+1,p,q,hq,hle,h=>by
   obtain⟨o,ho⟩:∃ o,ops[p]?=some o:=⟨_,zNG (by omega)⟩
   have h1:sI P tab oj (En j) (Hs p) (Hs (p+1)):=by
    cases he:qY o with
    | false=>rw[qQF t hn hal ho (by omega) he];exact .refl _
    | true =>
      rcases (qRR t hn ho (by omega)).2.2 with ⟨_,hx,_,hE,_⟩ | ⟨_,_,hx⟩
      ·have hE:=hE he;rw[zNY] at hE;rcases h p o (zM0 _) (by omega) ho he _ hE with h2 | h2
       ·exact .tk hf ha fun l hl=>qV2 hx (h2 l hl)
       ·have toL:∀ i:Nat,ops.toList[i]?=ops[i]?:=fun i=>zQ4 ..
        unfold qZU at h2;rw[toL,toL,hoj,ho] at h2;simp only at h2;split at h2
        ·rename_i ty a c ty' a' c' e1 e2;simp only[zMY] at h2;obtain⟨⟨⟨⟨c1,c2⟩,c3⟩,c4⟩,c5⟩:=h2;cases zMZ c1;cases zMZ c2;cases zMZ c3;have hjp:j < p:=zM9 c4
         have nw:∀ k o,j<=k->k < p->ops[k]?=some o->o.dst≠some a∧o.dst≠some c:=fun k o k1 k2 k3=>by
          have:=zM1.1 c5 (o,k) (zPJ.2 (by rw[toL];exact k3));have g1:Nat.ble j k=true:=zNL k1;have g2:Nat.blt k p=true:=zNL k2;simp only[g1,g2,zQY,zPW] at this
          cases hd:o.dst with
          | none=>exact⟨fun e=>by (cases e),fun e=>by (cases e)⟩
          | some d =>
            rw[hd] at this;simp only[zMY,zNJ] at this;exact⟨fun e=>by cases e;rw[aA] at this;exact absurd this.1 (by decide),fun e=>by cases e;rw[aA] at this;exact absurd this.2 (by decide)⟩
         exact .look e1 e2 (qFL t hn p (by omega) (by omega) fun k o k1 k2 k3=>(nw k o k1 k2 k3).1) (qFL t hn p (by omega) (by omega) fun k o k1 k2 k3=>(nw k o k1 k2 k3).2) hx
        ·cases h2
      ·rw[hx];exact .refl _
   exact h1.trans (qND t hn hal hoj hf ha n (p+1) q (by omega) hle fun k o' hk1 hk2=>h k o' (by omega) hk2)
open Classical in
noncomputable def qEH (ops:Array Oper)(S:Array Bool)(zFE eF:List PV):List PV:=(List.range zFE.length).map fun t=>if wr ops S t then pat eF t else pat zFE t
theorem j3 (S:Array Bool)(eF:List PV):(qEH ops S zFE eF).length=zFE.length:=by simp[qEH]
open Classical in
theorem gW {S:Array Bool}{eF:List PV}(hl:eF.length=zFE.length)(t:Nat):pat (qEH ops S zFE eF) t=if wr ops S t then pat eF t else pat zFE t:=by
 by_cases ht:t < zFE.length
 ·simp[qEH,pat,qG,zRC ht]
 ·rw[oD (by rw[j3];omega),oD (by omega),oD (by omega)];simp
theorem q4S (t:TrE n0 ops zFE En V)(hn:n0<=ops.size)(st:zG0 ops){S:Array Bool}(zGY:Clo ops S)(hsl:∀ i,sel S i->i < n0){j:Nat}{o:Oper}(ho:ops[j]?=some o)(hjn0:j<=n0)(hj:¬ sel S j)(hp:∀ i,vH (Region.before ops) i j=true->sel S i) :
 ∀ x∈uE ops o,pat (qEH ops S zFE (En n0)) x=pat (En j) x:=by
 intro x hx;have hjn:=(zNB.1 ho).1
 have before:∀ {k:Nat} {q:Oper},k≠j->ops[k]?=some q->q.dst=some x->vH (Region.before ops) k j=true∨vH (Region.before ops) j k=true:=fun hk hq hd=>by
  rcases st.reads _ j _ o x hk hq ho hd hx with h | ⟨_,h⟩
  ·exact .inl h
  ·exact .inr h
 rw[gW (fT t hn _ (zM0 _))];by_cases hw:wr ops S x
 ·rw[if_pos hw];obtain⟨i,oi,hi,hs,hd⟩:=hw;have hij:i≠j:=fun e=>hj (e ▸ hs)
  have hb:vH (Region.before ops) i j=true:=by
   rcases before hij hi hd with h | h
   ·exact h
   ·exact absurd (zGY j i h hs) hj
  have hlt:=vP st.back j i hb;by_cases hx':x < zFE.length
  ·have:=hsl i hs;rw[qRA t hn st hi hd hx' _ (zM0 _) (by omega),qRA t hn st hi hd hx' j (by omega) hlt]
  ·rw[oD (env:=En n0) (t:=x) (by rw[fT t hn _ (zM0 _)];exact zQ1 hx'),oD (env:=En j) (t:=x) (by rw[fT t hn j (by omega)];exact zQ1 hx')]
 ·rw[if_neg hw];refine (qFH t hn j (by omega) fun k q hk hq hd=>?_).symm;rcases before (by omega) hq hd with h | h
  ·exact hw ⟨k,q,hq,hp k h,hd⟩
  ·have:=vP st.back k j h;omega
theorem qQP (t:TrE n0 ops zFE En V)(hn:n0<=ops.size)(st:zG0 ops){S:Array Bool}{j:Nat}{o:Oper}(ho:ops[j]?=some o)(hj0:j < n0)(hjs:j < S.size) :
 qEH ops (S.setIfInBounds j true) zFE (En n0)=yL (qEH ops S zFE (En n0)) o.dst (V j):=by
 have hl:=fT t hn _ (zM0 _);have hjn:=(zNB.1 ho).1;apply qBZ
 ·rw[qUS,j3,j3]
 intro x;rw[qFM,j3,gW hl,gW hl];by_cases hd:o.dst=some x
 ·have hw:wr ops (S.setIfInBounds j true) x:=⟨j,o,ho,(yM hjs).2 (.inl rfl),hd⟩
  rw[if_pos hw];by_cases hx:x < zFE.length
  ·rw[if_pos ⟨hd,hx⟩,qRA t hn st ho hd hx _ (zM0 _) hj0]
  ·rw[if_neg (c:=o.dst=some x∧x < zFE.length) (fun h=>hx h.2),oD (by omega),oD (by omega)];simp
 ·rw[if_neg (c:=o.dst=some x∧x < zFE.length) (fun h=>hd h.1)]
  have:wr ops (S.setIfInBounds j true) x ↔ wr ops S x:=by
   constructor
   ·rintro⟨i,oi,h1,h2,h3⟩;rcases (yM hjs).1 h2 with rfl | h2
    ·rw[ho] at h1;cases h1;exact absurd h3 hd
    ·exact⟨i,oi,h1,h2,h3⟩
   ·rintro⟨i,oi,h1,h2,h3⟩;exact⟨i,oi,h1,(yM hjs).2 (.inr h2),h3⟩
  by_cases hw:wr ops S x
  ·rw[if_pos hw,if_pos (this.2 hw)]
  ·rw[if_neg hw,if_neg (fun h=>hw (this.1 h))]
theorem qD4 {o:Oper}{a c:List PV}(h:∀ t∈uE ops o,pat a t=pat c t):∀ x∈o.op.operands,qJ a x=qJ c x:=by
 intro x hx
 cases x with
 | tmp t=>exact h t (zOC _ (zPG.2 ⟨.tmp t,zN9.1 hx,rfl⟩))
 | _=>rfl
theorem qAO {o:Oper}{a c:List PV}(hl:a.length=c.length)(h:∀ t∈uE ops o,pat a t=pat c t):j5 (ops.toList.map (·.dst)) o a=j5 (ops.toList.map (·.dst)) o c:=by
 unfold j5;split
 ·rfl
 ·rename_i g w hg
  have hd:qQ9 (ops.toList.map (·.dst)) g=(ops[g]?).bind (·.dst):=by
   unfold qQ9;rw[zNC];have:ops.toList[g]?=ops[g]?:=by simp
   rw[this];cases ops[g]? <;> rfl
  unfold qPU;rw[hd]
  cases ht:(ops[g]?).bind (·.dst) with
  | none=>rfl
  | some t =>
    simp only;rw[qYN hl (h t (zOX _ (by rw[hg];simp[ht])))]
def zEI (ops:Array Oper)(S:Array Bool)(p:Nat):Prop:=∀ (j:Nat) (o:Oper),ops[j]?=some o->qY o=true->(sel S j ↔ j < p)
structure zIT (P:Program) (B:Nat) (nm:Nm) (ops:Array Oper) (zFE:List PV) (n0:Nat) (En:Nat->List PV) (Hs:Nat->PHp) (Z0:Nat->Prop) (H0:IH) (m0:Nat->Nat) (ph0:PHp) (f0:Inj) (w0:World) (S:Array Bool) (a:Act) (w:World) (p:Nat) (Z:Nat->Prop) (H:IH) (m:Nat->Nat) (f:Inj) (zFA:Env):Prop where
 size:S.size=ops.size
 clo:Clo ops S
 cut:zEI ops S p
 ple:p<=n0
 sl:∀ i,sel S i->i < n0
 rel:Rel P f H w
 grow:Grow f0 H0 w0 f H w
 zGP:qE P f zFA a.tmps.toList
 marks:Marks B f w a.defers
 hp:Hp P Z H (own m (Hs p))
 hb:H.base<=H.size
 env:VRL P Z H (own m (Hs p)) (qEH ops S zFE (En n0)) zFA
 step:Step Z0 H0 (own m0 ph0) Z H (own m (Hs p))
 kr:KR (inP nm) (own m0 ph0) (own m (Hs p))
theorem qMT {k:Nat}:∀ {l:List PV},(∀ t,noK k (pat l t)=true)->zZ k l=true
 | [],_=>rfl
 | x::l,h=>by
   simp only[zZ,zMY];refine⟨h 0,qMT fun t=>?_⟩;have:=h (t+1);exact this
theorem qWJ {k:Nat}{l:List PV}(h:zZ k l=true)(t:Nat):noK k (pat l t)=true:=by
 unfold pat;rw[qG]
 cases he:l[t]? with
 | none=>rfl
 | some x=>exact vU h he
theorem qRY {B:Nat}{F0:Fence}(hF:aV F0)(hns:vI P G nat)(ht:qR8 P nat tab)(t:TrI P tab nm (ops.toList.map (·.dst)) (dBo ops) (ops.toList.take n0) zFE ph0 En Hs V 0 E F N W)(hn:n0<=ops.size)(hlast:∀ i j,i < n0->n0<=j->j < ops.size->vH (Region.before ops) i j=true)(st:zG0 ops)(hal:fV ops=true)
 (hck:mD (dBo ops) zFE E F N W=true) {K:Exit->Act->World->Prop} {Z0:Nat->Prop} {H0:IH} {m0:Nat->Nat} {f0:Inj} {w0:World}
 (hdone:∀ (fuel:Nat) (S:Array Bool) (Z:Nat->Prop) (H:IH) (m:Nat->Nat) (f:Inj) (zFA:Env) (a:Act) (w:World),unl ops S<=fuel->S.size=ops.size->(∀ i,i < ops.size->(sel S i ↔ i < n0))->Rel P f H w->Grow f0 H0 w0 f H w->qE P f zFA a.tmps.toList->Marks B f w a.defers->Hp P Z H (own m (Hs n0))->H.base<=H.size->VRL P Z H (own m (Hs n0)) (En n0) zFA ->
   Step Z0 H0 (own m0 ph0) Z H (own m (Hs n0))->KR (inP nm) (own m0 ph0) (own m (Hs n0))->wpAnyIn F0 0 P .any ops K fuel S a w)
 (hG:uY G f0) (hok:gK (qX f0) ops=true) :
 ∀ (fuel:Nat) (S:Array Bool) (a:Act) (w:World),unl ops S<=fuel->(∃ p Z H m f zFA,zIT P B nm ops zFE n0 En Hs Z0 H0 m0 ph0 f0 w0 S a w p Z H m f zFA)->wpAnyIn F0 0 P .any ops K fuel S a w:=by
 intro fuel;have hl:=fT (t.e hn) hn _ (zM0 _)
 have zF1:∀ {S:Array Bool},S.size=ops.size->Region.ready .any ops S=[]->∀ j,j < ops.size->sel S j:=by
  intro S hsz hr j
  induction j using Nat.strongRecOn with
  | _ j ih =>
    intro hj;by_cases hs:sel S j
    ·exact hs
    ·exfalso
     have:j∈Region.ready .any ops S:=by
      rw[mem_ready];refine⟨?_,ops[j],by simp[hj],fun e he hb=>?_⟩
      ·unfold sel at hs;rw[zND] at hs ⊢;rw[zNG (by omega)] at hs ⊢;simpa using hs
      ·have hlt:=st.back j ops[j] (by simp[hj]) e he hb;exact ih e.on hlt (by omega)
     rw[hr] at this;cases this
 have done:∀ {fuel:Nat} {S:Array Bool} {a:Act} {w:World} {p:Nat} {Z:Nat->Prop} {H:IH} {m:Nat->Nat} {f:Inj} {zFA:Env},unl ops S<=fuel->zIT P B nm ops zFE n0 En Hs Z0 H0 m0 ph0 f0 w0 S a w p Z H m f zFA->(∀ j,j < n0->sel S j)->wpAnyIn F0 0 P .any ops K fuel S a w:=by
  intro fuel S a w p Z H m f zFA hu s hall;have hcut:∀ k o,ops[k]?=some o->qY o=true->(k < p ↔ k < n0):=fun k o hk he=>(s.cut k o hk he).symm.trans ⟨fun h=>s.sl k h,fun h=>hall k h⟩
  have hpe:Hs p=Hs n0:=qPM t hn hal (n0 - p) p n0 (by have:=s.ple;omega) (zM0 _) hcut
  have hcur:qEH ops S zFE (En n0)=En n0:=by
   apply qBZ
   ·rw[j3,hl]
   intro x;rw[gW hl];by_cases hw:wr ops S x
   ·rw[if_pos hw]
   ·rw[if_neg hw];exact (qFH (t.e hn) hn _ (zM0 _) fun k o hk ho hd=>hw ⟨k,o,ho,hall k hk,hd⟩).symm
  have e1:=s.hp;have e2:=s.env;have e3:=s.step;have e4:=s.kr;rw[hpe] at e1 e2 e3 e4;rw[hcur] at e2;exact hdone fuel S Z H m f zFA a w hu s.size (fun i _=>⟨s.sl i,hall i⟩) s.rel s.grow s.zGP s.marks e1 s.hb e2 e3 e4
 induction fuel with
 | zero =>
   rintro S a w hu ⟨p,Z,H,m,f,zFA,s⟩
   have hall:∀ j,j < n0->sel S j:=by
    intro j hj;have hz:unl ops S=0:=by omega
    unfold unl at hz;have:=zQM.1 hz j (zPH.2 (by omega));unfold sel;simpa using this
   exact done hu s hall
 | succ fuel ih =>
   rintro S a w hu ⟨p,Z,H,m,f,zFA,s⟩;by_cases hall:∀ j,j < n0->sel S j
   ·exact done hu s hall
   refine⟨fun hrd=>absurd (fun j hj=>zF1 s.size hrd j (by omega)) hall,fun j hj=>?_⟩;rw[mem_ready] at hj;obtain⟨hjl,o,ho,zHK⟩:=hj;have hlt:=(zNB.1 ho).1;have hjs:j < S.size:=by rw[s.size];exact hlt
   have hnj:¬ sel S j:=by
    unfold sel;rw[zND,zNG hjs] at hjl ⊢;simp only[zO4] at hjl ⊢;rw[hjl];simp
   have hpre:∀ i,vH (Region.before ops) i j=true->sel S i:=by
    intro i hb;obtain⟨e,he,hbd,h3⟩:=(qF6 st.back ho).1 hb;have:=zHK e he hbd;rcases h3 with rfl | h3
    ·exact this
    ·exact s.clo _ _ h3 this
   have hj0:j < n0:=by
    rcases Nat.lt_or_ge j n0 with h | h
    ·exact h
    ·exact absurd (fun i hi=>hpre i (hlast i j hi h hlt)) hall
   have zKV:∀ i,sel (S.setIfInBounds j true) i->i < n0:=fun i hi=>by
    rcases (yM hjs).1 hi with rfl | h
    ·exact hj0
    ·exact s.sl i h
   have hu':unl ops (S.setIfInBounds j true)<=fuel:=by
    have:=qNU hlt s.size hnj;omega
   have zGM:=qLI hjs s.clo hpre
   have hok':o.op.operands.toList.all (kR (qX f))=true:=by
    have h1:=kN (zF s.grow.le) hok;unfold gK at h1;exact zM1.1 h1 o (zN5 (toL ho))
   have hag:=q4S (t.e hn) hn st s.clo s.sl ho (by omega) hnj hpre;have hlen:(qEH ops S zFE (En n0)).length=(En j).length:=by rw[j3,fT (t.e hn) hn j (by omega)]
   have hval:=qD4 hag;have hwc:=qAO (ops:=ops) hlen hag;have hGf:=hG.mono s.grow.le;obtain⟨q1,q2,q3⟩:=qRR t hn ho hj0;unfold wpOpIn;rw[ho];simp only
   -- the next stand
   have zLV:∃ p',p'<=n0∧zEI ops (S.setIfInBounds j true) p'∧(qY o=true->p'=j+1)∧(qY o=false->p'=p):=by
    cases he:qY o with
    | true =>
      refine⟨j+1,hj0,?_,fun _=>rfl,fun h=>(by cases h)⟩;intro k q hk hq;rw[yM hjs];by_cases hkj:k=j
      ·subst hkj;simp
      ·rcases qHX hal k j q o hkj hk ho hq he with h | h
       ·have:=vP st.back j k h;exact⟨fun _=>by omega,fun _=>.inr (hpre k h)⟩
       ·have:=vP st.back k j h;refine⟨fun hs=>?_,fun h2=>by omega⟩;rcases hs with hs | hs
        ·exact absurd hs hkj
        ·exact absurd (s.clo j k h hs) hnj
    | false =>
      refine⟨p,s.ple,?_,fun h=>(by cases h),fun _=>rfl⟩;intro k q hk hq;rw[yM hjs];have hkj:k≠j:=by intro e;subst e;rw[ho] at hk;cases hk;rw[he] at hq;cases hq
      simp only[hkj,false_or];exact s.cut k q hk hq
   have zG6:qY o=true->Hs p=Hs j:=fun he=>by
    have key:∀ k q,ops[k]?=some q->qY q=true->(k < p ↔ k < j):=fun k q hk hq=>by
     refine (s.cut k q hk hq).symm.trans ?_;by_cases hkj:k=j
     ·subst hkj;exact⟨fun h=>absurd h hnj,fun h=>absurd h (zQB _)⟩
     ·rcases qHX hal k j q o hkj hk ho hq he with h | h
      ·have:=vP st.back j k h;exact⟨fun _=>this,fun _=>hpre k h⟩
      ·have:=vP st.back k j h;exact⟨fun hs=>absurd (s.clo j k h hs) hnj,fun hlt=>by omega⟩
    by_cases hpj:p<=j
    ·exact qPM t hn hal (j - p) p j (by omega) (by omega) key
    ·exact (qPM t hn hal (p - j) j p (by omega) s.ple fun k q hk hq=>(key k q hk hq).symm).symm
   obtain⟨p',zJU,hcut',hpE,hpF⟩:=zLV;have zHN:=qQP (t.e hn) hn st ho hj0 hjs
   rcases q3 with ⟨g1,g2,g3,g4,g5⟩ | ⟨g1,g2,g3⟩
   ·rw[<-hwc] at g1;rw[y7 s.zGP (o8 s.env g1),if_pos rfl]
    -- the operation at this state
    have hx:∃ php,zL P tab (qH nm o.dst) o (qEH ops S zFE (En n0)) (Hs p)=.ok (V j) php∧php=Hs p':=by
     cases he:qY o with
     | true =>
       refine⟨Hs (j+1),?_,by rw[hpE he]⟩;rw[zG6 he,aP hval];exact g2
     | false =>
       have d1:=(oM (mV he).1 (mV he).2 g2).1;refine⟨Hs p,?_,by rw[hpF he]⟩;rw[aP hval];rw[d1] at g2;have hFj:=g5 he;unfold mD at hck;rw[zMY] at hck;have zLW:=zM1.1 hck.1 _ hFj
       have zKW:∀ k q,ops[k]?=some q->qY q=true->(¬ (k < p ↔ k < j))->∀ ws,(k,ws)∈E->(∀ l∈dlT o (En j),l ∉ ws)∨qZU ops.toList j k=true:=by
        intro k q hk hq hne ws hws;have:=zM1.1 zLW _ hws;simp only[zNY,zN1,zM1] at this;rcases this with h | h | h
        ·exfalso;have hsk:=s.cut k q hk hq;unfold qPJ at h;rw[zN1] at h;rcases h with h | h
         ·have h1:=hpre k h;have h2:=vP st.back j k h;exact hne ⟨fun _=>h2,fun _=>hsk.1 h1⟩
         ·have h2:=vP st.back k j h;have h1:¬ sel S k:=fun hs=>hnj (s.clo j k h hs)
          exact hne ⟨fun hh=>absurd (hsk.2 hh) h1,fun hh=>by omega⟩
        ·exact .inr h
        ·refine .inl fun l hl hm=>?_
         have:=h l hl;simp[hm] at this
       by_cases hpj:p<=j
       ·refine ((qND t hn hal ho (mV he).1 (mV he).2 (j - p) p j (by omega) (by omega) fun k q h1 h2 hk hq ws hws=>?_) _ _).2 g2;exact zKW k q hk hq (fun h=>by have:=h.2 h2;omega) ws hws
       ·refine ((qND t hn hal ho (mV he).1 (mV he).2 (p - j) j p (by omega) s.ple fun k q h1 h2 hk hq ws hws=>?_) _ _).1 g2;exact zKW k q hk hq (fun h=>by have:=h.1 h2;omega) ws hws
    obtain⟨php,hx,rfl⟩:=hx
    have hfresh:needs o.op=true->fresh nm (qH nm o.dst) (qEH ops S zFE (En n0)) (Hs p)=true:=by
     intro hnd
     have he:qY o=true:=by
      unfold qY yR qL xI
      cases hop:o.op <;> rw[hop] at hnd <;> first | (cases hnd;done) | rfl | skip
      ·cases hg:o.guard.isNone <;> rfl
      ·rename_i c;obtain⟨cal,args,ts⟩:=c
       cases cal with
       | builtin b=>cases b <;> first | (cases hnd;done) | rfl
       | _=>cases hnd
     obtain⟨i1,i2,i3⟩:=g3 hnd;unfold fresh;rw[i1,zG6 he,i2,zO9,zPX];unfold mD at hck;rw[zMY] at hck;have hN:=zM1.1 hck.2 _ i3;rw[zMY] at hN;refine qMT fun x=>?_
     rw[gW hl];by_cases hw:wr ops S x
     ·rw[if_pos hw];obtain⟨i,oi,hi,hs,hd⟩:=hw;by_cases hx':x < zFE.length
      ·have hin:=(zNB.1 hi).1;rw[qRA (t.e hn) hn st hi hd hx' _ (zM0 _) (s.sl i hs)];have hW:=zM1.1 hN.2 _ (qRR t hn hi (s.sl i hs)).2.1;simp only[zNY,zN1] at hW;rcases hW with h | h | h
       ·have:=zMZ h;subst this;exact absurd hs hnj
       ·exact absurd (s.clo j i h hs) hnj
       ·exact h
      ·rw[oD (env:=En n0) (t:=x) (by rw[hl];exact zQ1 hx')];rfl
     ·rw[if_neg hw];exact qWJ hN.1 x
    refine qLK (nm:=nm) hF hns ht s.rel hGf s.zGP hok' s.hp s.hb s.env (qK7 hx) hfresh fun Z' m' u H' f' v' w' b1 b2 b3 b4 b5 k1 k2 k3=>?_
    refine ih _ _ _ hu' ⟨p',Z',H',m',f',zFA.zFT o.dst u,by simp[s.size],zGM,hcut',zJU,zKV,k1,s.grow.trans k2,kV (s.zGP.mono k2.le) k3 _,by rw[put_defers];exact Marks.grow k2 _ s.marks,b1,by rw[b4.base];exact zNP s.hb b4.size,?_,s.step.trans b4,s.kr.trans b5⟩;rw[zHN];exact b3.zFT b2 _
   ·rw[<-hwc] at g1;rw[y7 s.zGP (o8 s.env g1),if_neg (by simp)]
    have hpp:Hs p'=Hs p:=by
     cases he:qY o with
     | true=>rw[hpE he,g3,zG6 he]
     | false=>rw[hpF he]
    have e1:=s.hp;have e2:=s.env;have e3:=s.step;have e4:=s.kr;rw[<-hpp] at e1 e2 e3 e4;refine⟨fun g _=>hF.fn g,ih _ _ _ hu' ⟨p',Z,H,m,f,zFA.zFT o.dst undef,by simp[s.size],zGM,hcut',zJU,zKV,s.rel,s.grow,kV s.zGP .undef _,by rw[put_defers];exact s.marks,e1,s.hb,?_,e3,e4⟩⟩;rw[zHN,g2];exact e2.zFT (VRL.zHM (vs:=#[]) .nil) _
theorem qFW {F0:Fence}{K:Exit->Act->World->Prop}:∀ {fuel:Nat} {S:Array Bool} {a:Act} {w:World},S.size=ops.size->(∀ i,i < ops.size->sel S i)->K .normal a w->wpAnyIn F0 0 P .any ops K fuel S a w:=by
 intro fuel S a w hsz hall hk
 have hr:∀ x,x ∉ Region.ready .any ops S:=by
  intro x hx;rw[mem_ready] at hx;obtain⟨h1,o,ho,_⟩:=hx;have hlt:=(zNB.1 ho).1;have:=hall x hlt;unfold sel at this;rw[zND,zNG (by rw[hsz];exact hlt)] at h1 this;simp only[zO4] at h1 this;rw[h1] at this;cases this
 cases fuel with
 | zero=>exact⟨List.eq_nil_iff_forall_not_mem.2 hr,hk⟩
 | succ fuel=>exact⟨fun _=>hk,fun j hj=>absurd hj (hr j)⟩
theorem zF2.zKX (s:zF2 P good nat G tab){env:List PV}{ph:PHp}{Qt:List PV->PHp->Prop}{B:Nat}(hn:n0<=ops.size)(hlast:∀ i j,i < n0->n0<=j->j < ops.size->vH (Region.before ops) i j=true)(hok:gK G ops=true)(hd:fO ops=true)(hal:fV ops=true)
 (h:(qK1 P tab nm (ops.toList.map (·.dst)) (dBo ops) env 0 (ops.toList.take n0) env ph [] [] [] []).holds P G Qt) {Z:Nat->Prop} {H:IH} {m:Nat->Nat} {zFA:Env} {F:Fence} {f:Inj} {a:Act} {w:World} {K:Exit->Act->World->Prop}
 (hp:Hp P Z H (own m ph)) (hb:H.base<=H.size) (he:VRL P Z H (own m ph) env zFA) (hF:aV F) (hR:Rel P f H w) (hG:uY G f) (zFI:qE P f zFA a.tmps.toList) (hm:Marks B f w a.defers)
 (hdone:∀ (e:List PV) (p:PHp) (fuel:Nat) (S:Array Bool) (Z':Nat->Prop) (H':IH) (m':Nat->Nat) (f':Inj) (zFZ:Env) (a':Act) (w':World),Qt e p->unl ops S<=fuel->S.size=ops.size->(∀ i,i < ops.size->(sel S i ↔ i < n0))->Rel P f' H' w'->Grow f H w f' H' w'->qE P f' zFZ a'.tmps.toList->Marks B f' w' a'.defers->Hp P Z' H' (own m' p)->H'.base<=H'.size->VRL P Z' H' (own m' p) e zFZ ->
   Step Z H (own m ph) Z' H' (own m' p)->KR (inP nm) (own m ph) (own m' p)->wpAnyIn F 0 P .any ops K fuel S a' w'):wpAnyIn F 0 P .any ops K ops.size (Array.replicate ops.size false) a { w with drawn:=w.drawn+1 }:=by
 obtain⟨En,Hs,V,E',F',N',W',t,_,_,_,_,hck,hq⟩:=qGA _ _ _ _ _ _ _ _ h;have st:=(qM9 hd).z;have hl:(ops.toList.take n0).length=n0:=by simp;omega
 rw[hl] at hq;refine qRY (B:=B) hF s.s.spec s.t t hn hlast st hal hck (Z0:=Z) (H0:=H) (m0:=m) (f0:=f) (w0:=w) ?_ hG (kN hG hok) _ _ _ _ ?_ ⟨0,Z,H,m,f,zFA,?_⟩
 ·intro fuel S Z' H' m' f' zFZ a' w' k1 k2 k3 k4 k5 k6 k7 k8 k9 k10 k11 k12;exact hdone _ _ fuel S Z' H' m' f' zFZ a' w' hq k1 k2 k3 k4 k5 k6 k7 k8 k9 k10 k11 k12
 ·unfold unl;have:=zQ3 (p:=fun j=>!(Array.replicate ops.size false).getD j false) (l:=List.range ops.size);simpa using this
 ·have hsel:∀ i,¬ sel (Array.replicate ops.size false) i:=by
   intro i h;unfold sel at h;rw[zND,zQQ] at h;split at h <;> simp at h
  have hcur:qEH ops (Array.replicate ops.size false) env (En n0)=env:=by
   apply qBZ (j3 _ _);intro x;rw[gW (fT (t.e hn) hn _ (zM0 _)),if_neg];rintro⟨j,o,_,h2,_⟩;exact hsel j h2
  have hw:Grow f H w f H { w with drawn:=w.drawn+1 }:=Grow.world rfl;have h0:=t.h0;refine⟨by simp,fun i j _ hj=>absurd hj (hsel j),fun j o _ _=>⟨fun h=>absurd h (hsel j),fun h=>by omega⟩,zO1 _,fun i h=>absurd h (hsel i),hR.world rfl,hw,zFI,Marks.grow hw _ hm,by rw[h0];exact hp,hb,by rw[h0,hcur];exact he,by rw[h0];exact .refl _ _ _,by rw[h0];exact .refl _ _⟩
end
theorem zF2.drw (s:zF2 P good nat G tab){id:Nat}{ops:Array Oper}{env:List PV}{ph:PHp}{Q:PQ}{ds:List (Option Tmp)}(hok:gK G ops=true)(hd:fO ops=true)(hal:fV ops=true)(hds:ops.toList.map (·.dst)=ds)
 (h:(qK1 P tab nm ds (dBo ops) env 0 ops.toList env ph [] [] [] []).holds P G fun e p=>Q .normal e p):Runs P G rd nm (.region id ops true) env ph Q:=by
 intro Z H m zFA hp hb he B F f a w hF hr hR hG zFI hm;subst hds;have ht:ops.toList.take ops.size=ops.toList:=by rw[<-zN8];exact zPE
 refine wpIn_region_any s.s.mix (s.zKX (B:=B) (n0:=ops.size) (K:=kZ P B f H w _) (zM0 _) (fun i j _ h1 h2=>by omega) hok hd hal (by rw[ht];exact h) hp hb he hF hR hG zFI hm ?_);intro e p fuel S Z' H' m' f' zFZ a' w' hq k1 k2 k3 k4 k5 k6 k7 k8 k9 k10 k11 k12;exact qFW k2 (fun i hi=>(k3 i hi).2 hi) ⟨⟨.normal,zFZ,H'⟩,f',⟨Z',m',e,p,k8,k10,k11,k12,hq⟩,rfl,k4,k5,k6,k7⟩
end Go.Idl
