/- Regions that draw their order, on values without a heap: whatever the order. Conditions: none. -/
import Derived.Test.YtmkiipeghngchaaGreatDoorPur16
import Derived.OrdersIn
set_option linter.all false
namespace Go.Idl
variable [Gc]
variable {P:Program}{G:Nat->Bool}{nat:xB}{tab:u6}{nm:Nm}{good:FuncId->Bool}{rd:Bool}
structure zG8 (ops:Array Oper):Prop where
 back:∀ j o,ops[j]?=some o->∀ e∈o.after,Region.binds .any e=true->e.on < j
 dst:∀ (i j:Nat) (o p:Oper) (d:Tmp),i≠j->ops[i]?=some o->ops[j]?=some p->o.dst=some d->p.dst≠some d
 reads:∀ (i j:Nat) (o p:Oper) (d:Tmp),i≠j->ops[i]?=some o->ops[j]?=some p->o.dst=some d->d∈uM ops p ->
  vQ (Region.before ops) i j=true∨(qL o=false∧vQ (Region.before ops) j i=true)
theorem Stat.z {ops:Array Oper}(st:Stat ops):zG8 ops:=⟨st.back,st.dst,st.reads⟩
noncomputable def pat (env:List PV)(t:Nat):PV:=(zG env t).getD .unk
theorem oO {env:List PV}{t:Nat}(h:env.length<=t):pat env t=.unk:=by simp[pat,qF,zP8 h]
theorem qHU (env:List PV)(d:Option Tmp)(v:PV)(t:Nat):pat (yO env d v) t=if d=some t∧t < env.length then v else pat env t:=by
 cases d with
 | none=>simp[yO]
 | some d =>
   simp only[yO,pat,qF,qV,zPM,zO1];by_cases h:d=t
   ·subst h;by_cases hl:d < env.length
    ·simp[hl]
    ·simp[hl]
   ·simp[h]
theorem qT9 (env:List PV)(d:Option Tmp)(v:PV):(yO env d v).length=env.length:=by
 cases d with
 | none=>rfl
 | some d=>simp[yO,qV]
theorem qYL {a b:List PV}(hl:a.length=b.length){t:Nat}(h:pat a t=pat b t):zG a t=zG b t:=by
 simp only[pat,qF] at h ⊢;by_cases ht:t < a.length
 ·rw[zOX ht,zOX (by omega)] at h ⊢;simpa using h
 ·rw[zP8 (by omega),zP8 (by omega)]
theorem qCE {a b:List PV}(hl:a.length=b.length)(h:∀ t,pat a t=pat b t):a=b:=by
 apply zQF;intro t;have:=qYL hl (h t)
 rwa [qF,qF] at this
section
variable {n0:Nat}{ops:Array Oper}{zFH:List PV}{ph0:PHp}{En:Nat->List PV}{Hs:Nat->PHp}{V:Nat->PV}{E F:List (Nat×List Nat)}{N:List (Nat×Nat)}{W:List (Nat×PV)}
theorem qSE {ds:List (Option Tmp)}{b:DB}(t:TrI P tab nm ds b (ops.toList.take n0) zFH ph0 En Hs V 0 E F N W)(hn:n0<=ops.size){i:Nat}{o:Oper}(h:ops[i]?=some o)(hi:i < n0) :
 En (i+1)=yO (En i) o.dst (V i)∧(0+i,V i)∈W ∧
 ((vO ds o (En i)=some true∧zK P tab (qH nm o.dst) o (En i) (Hs i)=.ok (V i) (Hs (i+1))∧(needs o.op=true->inP nm (qH nm o.dst)=true∧aD (qH nm o.dst) (Hs i)=true∧(0+i,qH nm o.dst)∈N) ∧
    (qZ o=true->(0+i,wlT nm o (En i))∈E)∧(qZ o=false->(0+i,dlT o (En i))∈F)) ∨
   (vO ds o (En i)=some false∧V i=.tup []∧Hs (i+1)=Hs i)):=t.step i o (by rw[List.getElem?_take_of_lt hi];simpa using h)
structure TrE (n0:Nat) (ops:Array Oper) (zFH:List PV) (En:Nat->List PV) (V:Nat->PV):Prop where
 e0:En 0=zFH
 step:∀ i o,ops[i]?=some o->i < n0->En (i+1)=yO (En i) o.dst (V i)
theorem TrI.e {ds:List (Option Tmp)}{b:DB}(t:TrI P tab nm ds b (ops.toList.take n0) zFH ph0 En Hs V 0 E F N W)(hn:n0<=ops.size):TrE n0 ops zFH En V:=⟨t.e0,fun i o h hi=>(qSE t hn h hi).1⟩
theorem aP (t:TrE n0 ops zFH En V)(hn:n0<=ops.size):∀ i,i<=n0->(En i).length=zFH.length
 | 0,_=>by rw[t.e0]
 | i+1,h=>by
   obtain⟨o,ho⟩:∃ o,ops[i]?=some o:=⟨_,zPA (by omega)⟩
   rw[t.step _ _ ho (by omega),qT9,aP t hn i (by omega)]
theorem qGK (t:TrE n0 ops zFH En V)(hn:n0<=ops.size){x:Nat}:∀ i,i<=n0->(∀ k o,k < i->ops[k]?=some o->o.dst≠some x)->pat (En i) x=pat zFH x
 | 0,_,_=>by rw[t.e0]
 | i+1,h,hk=>by
   obtain⟨o,ho⟩:∃ o,ops[i]?=some o:=⟨_,zPA (by omega)⟩
   rw[t.step _ _ ho (by omega),qHU,if_neg (fun hc=>hk i o (by omega) ho hc.1)];exact qGK t hn i (by omega) fun k o hk1=>hk k o (by omega)
theorem qR6 (t:TrE n0 ops zFH En V)(hn:n0<=ops.size)(st:zG8 ops){k x:Nat}{o:Oper}(ho:ops[k]?=some o)(hd:o.dst=some x)(hx:x < zFH.length):∀ i,i<=n0->k < i->pat (En i) x=V k
 | 0,_,h=>by omega
 | i+1,h,hk=>by
   obtain⟨p,hp⟩:∃ o,ops[i]?=some o:=⟨_,zPA (by omega)⟩
   rw[t.step _ _ hp (by omega),qHU];by_cases e:k=i
   ·subst e;rw[ho] at hp;cases hp;rw[if_pos ⟨hd,by rw[aP t hn k (by omega)];exact hx⟩]
   ·rw[if_neg (fun hc=>st.dst k i o p x e ho hp hd hc.1)];exact qR6 t hn st ho hd hx i (by omega) (by omega)
theorem qO6 {ds:List (Option Tmp)}{b:DB}(t:TrI P tab nm ds b (ops.toList.take n0) zFH ph0 En Hs V 0 E F N W)(hn:n0<=ops.size)(hal:aN ops=true){i:Nat}{o:Oper}(ho:ops[i]?=some o)(hi:i < n0)(he:qZ o=false):Hs (i+1)=Hs i:=by
 rcases (qSE t hn ho hi).2.2 with ⟨_,h,_⟩ | ⟨_,_,h⟩
 ·exact (pE (oD he).1 (oD he).2 h).1
 ·exact h
theorem qQ6 {ds:List (Option Tmp)}{b:DB}(t:TrI P tab nm ds b (ops.toList.take n0) zFH ph0 En Hs V 0 E F N W)(hn:n0<=ops.size)(hal:aN ops=true):∀ (n p q:Nat),q=p+n->q<=n0->(∀ k o,ops[k]?=some o->qZ o=true->(k < p ↔ k < q))->Hs p=Hs q
 | 0,p,q,hq,_,_=>by rw[hq];rfl
 | n+1,p,q,hq,hle,h=>by
   obtain⟨o,ho⟩:∃ o,ops[p]?=some o:=⟨_,zPA (by omega)⟩
   have he:qZ o=false:=by
    cases he:qZ o with
    | false=>rfl
    | true=>have:=h p o ho he;omega
   rw[<-qO6 t hn hal ho (by omega) he];refine qQ6 t hn hal n (p+1) q (by omega) hle fun k o' hk hk'=>?_
   have:=h k o' hk hk';constructor
   ·intro h1;omega
   ·intro h1;have:=this.2 h1;omega
theorem qG4 {ds:List (Option Tmp)}{b:DB}(t:TrI P tab nm ds b (ops.toList.take n0) zFH ph0 En Hs V 0 E F N W)(hn:n0<=ops.size){x j:Nat}:∀ i,i<=n0->j<=i->(∀ k o,j<=k->k < i->ops[k]?=some o->o.dst≠some x)->pat (En i) x=pat (En j) x
 | i,h,hj,hk=>by
   by_cases e:j=i
   ·rw[e]
   ·cases i with
    | zero=>omega
    | succ i =>
      obtain⟨o,ho⟩:∃ o,ops[i]?=some o:=⟨_,zPA (by omega)⟩
      rw[(qSE t hn ho (by omega)).1,qHU,if_neg (fun hc=>hk i o (by omega) (by omega) ho hc.1)];exact qG4 t hn i (by omega) (by omega) fun k o h1 h2=>hk k o h1 (by omega)
theorem qMU {ds:List (Option Tmp)}{b:DB}(t:TrI P tab nm ds b (ops.toList.take n0) zFH ph0 En Hs V 0 E F N W)(hn:n0<=ops.size)(hal:aN ops=true){j:Nat}{oj:Oper}(hoj:ops[j]?=some oj)(hf:yQ oj=false)(ha:qL oj=false):∀ (n p q:Nat),q=p+n->q<=n0 ->
 (∀ k o,p<=k->k < q->ops[k]?=some o->qZ o=true->∀ ws,(k,ws)∈E->(∀ l∈dlT oj (En j),l ∉ ws)∨q2J ops.toList j k=true)->nC P tab oj (En j) (Hs p) (Hs q)
 | 0,p,q,hq,_,_=>by rw[hq];exact .refl _
 | n+1,p,q,hq,hle,h=>by
   obtain⟨o,ho⟩:∃ o,ops[p]?=some o:=⟨_,zPA (by omega)⟩
   have h1:nC P tab oj (En j) (Hs p) (Hs (p+1)):=by
    cases he:qZ o with
    | false=>rw[qO6 t hn hal ho (by omega) he];exact .refl _
    | true =>
      rcases (qSE t hn ho (by omega)).2.2 with ⟨_,hx,_,hE,_⟩ | ⟨_,_,hx⟩
      ·have hE:=hE he;rw[zPH] at hE;rcases h p o (zOV _) (by omega) ho he _ hE with h2 | h2
       ·exact .tk hf ha fun l hl=>qWQ hx (h2 l hl)
       ·have toL:∀ i:Nat,ops.toList[i]?=ops[i]?:=fun i=>zR8 ..
        unfold q2J at h2;rw[toL,toL,hoj,ho] at h2;simp only at h2;split at h2
        ·rename_i ty a c ty' a' c' e1 e2;simp only[zOT] at h2;obtain⟨⟨⟨⟨c1,c2⟩,c3⟩,c4⟩,c5⟩:=h2;cases zOU c1;cases zOU c2;cases zOU c3;have hjp:j < p:=zO2 c4
         have nw:∀ k o,j<=k->k < p->ops[k]?=some o->o.dst≠some a∧o.dst≠some c:=fun k o k1 k2 k3=>by
          have:=zOW.1 c5 (o,k) (zRE.2 (by rw[toL];exact k3));have g1:Nat.ble j k=true:=zPD k1;have g2:Nat.blt k p=true:=zPD k2;simp only[g1,g2,zSV,zR3] at this
          cases hd:o.dst with
          | none=>exact⟨fun e=>by (cases e),fun e=>by (cases e)⟩
          | some d =>
            rw[hd] at this;simp only[zOT,zPN] at this;exact⟨fun e=>by cases e;rw[aM] at this;exact absurd this.1 (by decide),fun e=>by cases e;rw[aM] at this;exact absurd this.2 (by decide)⟩
         exact .look e1 e2 (qG4 t hn p (by omega) (by omega) fun k o k1 k2 k3=>(nw k o k1 k2 k3).1) (qG4 t hn p (by omega) (by omega) fun k o k1 k2 k3=>(nw k o k1 k2 k3).2) hx
        ·cases h2
      ·rw[hx];exact .refl _
   exact h1.trans (qMU t hn hal hoj hf ha n (p+1) q (by omega) hle fun k o' hk1 hk2=>h k o' (by omega) hk2)
open Classical in
noncomputable def qFT (ops:Array Oper)(S:Array Bool)(zFH eF:List PV):List PV:=(List.range zFH.length).map fun t=>if wr ops S t then pat eF t else pat zFH t
theorem vE (S:Array Bool)(eF:List PV):(qFT ops S zFH eF).length=zFH.length:=by simp[qFT]
open Classical in
theorem fD {S:Array Bool}{eF:List PV}(hl:eF.length=zFH.length)(t:Nat):pat (qFT ops S zFH eF) t=if wr ops S t then pat eF t else pat zFH t:=by
 by_cases ht:t < zFH.length
 ·simp[qFT,pat,qF,zTD ht]
 ·rw[oO (by rw[vE];omega),oO (by omega),oO (by omega)];simp
theorem q4F (t:TrE n0 ops zFH En V)(hn:n0<=ops.size)(st:zG8 ops){S:Array Bool}(zG6:Clo ops S)(hsl:∀ i,sel S i->i < n0){j:Nat}{o:Oper}(ho:ops[j]?=some o)(hjn0:j<=n0)(hj:¬ sel S j)(hp:∀ i,vQ (Region.before ops) i j=true->sel S i) :
 ∀ x∈uM ops o,pat (qFT ops S zFH (En n0)) x=pat (En j) x:=by
 intro x hx;have hjn:=(zO4.1 ho).1
 have before:∀ {k:Nat} {q:Oper},k≠j->ops[k]?=some q->q.dst=some x->vQ (Region.before ops) k j=true∨vQ (Region.before ops) j k=true:=fun hk hq hd=>by
  rcases st.reads _ j _ o x hk hq ho hd hx with h | ⟨_,h⟩
  ·exact .inl h
  ·exact .inr h
 rw[fD (aP t hn _ (zOV _))];by_cases hw:wr ops S x
 ·rw[if_pos hw];obtain⟨i,oi,hi,hs,hd⟩:=hw;have hij:i≠j:=fun e=>hj (e ▸ hs)
  have hb:vQ (Region.before ops) i j=true:=by
   rcases before hij hi hd with h | h
   ·exact h
   ·exact absurd (zG6 j i h hs) hj
  have hlt:=wB st.back j i hb;by_cases hx':x < zFH.length
  ·have:=hsl i hs;rw[qR6 t hn st hi hd hx' _ (zOV _) (by omega),qR6 t hn st hi hd hx' j (by omega) hlt]
  ·rw[oO (env:=En n0) (t:=x) (by rw[aP t hn _ (zOV _)];exact zSX hx'),oO (env:=En j) (t:=x) (by rw[aP t hn j (by omega)];exact zSX hx')]
 ·rw[if_neg hw];refine (qGK t hn j (by omega) fun k q hk hq hd=>?_).symm;rcases before (by omega) hq hd with h | h
  ·exact hw ⟨k,q,hq,hp k h,hd⟩
  ·have:=wB st.back k j h;omega
theorem qP6 (t:TrE n0 ops zFH En V)(hn:n0<=ops.size)(st:zG8 ops){S:Array Bool}{j:Nat}{o:Oper}(ho:ops[j]?=some o)(hj0:j < n0)(hjs:j < S.size) :
 qFT ops (S.setIfInBounds j true) zFH (En n0)=yO (qFT ops S zFH (En n0)) o.dst (V j):=by
 have hl:=aP t hn _ (zOV _);have hjn:=(zO4.1 ho).1;apply qCE
 ·rw[qT9,vE,vE]
 intro x;rw[qHU,vE,fD hl,fD hl];by_cases hd:o.dst=some x
 ·have hw:wr ops (S.setIfInBounds j true) x:=⟨j,o,ho,(yK hjs).2 (.inl rfl),hd⟩
  rw[if_pos hw];by_cases hx:x < zFH.length
  ·rw[if_pos ⟨hd,hx⟩,qR6 t hn st ho hd hx _ (zOV _) hj0]
  ·rw[if_neg (c:=o.dst=some x∧x < zFH.length) (fun h=>hx h.2),oO (by omega),oO (by omega)];simp
 ·rw[if_neg (c:=o.dst=some x∧x < zFH.length) (fun h=>hd h.1)]
  have:wr ops (S.setIfInBounds j true) x ↔ wr ops S x:=by
   constructor
   ·rintro⟨i,oi,h1,h2,h3⟩;rcases (yK hjs).1 h2 with rfl | h2
    ·rw[ho] at h1;cases h1;exact absurd h3 hd
    ·exact⟨i,oi,h1,h2,h3⟩
   ·rintro⟨i,oi,h1,h2,h3⟩;exact⟨i,oi,h1,(yK hjs).2 (.inr h2),h3⟩
  by_cases hw:wr ops S x
  ·rw[if_pos hw,if_pos (this.2 hw)]
  ·rw[if_neg hw,if_neg (fun h=>hw (this.1 h))]
theorem qEH {o:Oper}{a c:List PV}(h:∀ t∈uM ops o,pat a t=pat c t):∀ x∈o.op.operands,qJ a x=qJ c x:=by
 intro x hx
 cases x with
 | tmp t=>exact h t (zP5 _ (zRD.2 ⟨.tmp t,zP9.1 hx,rfl⟩))
 | _=>rfl
theorem qCU {o:Oper}{a c:List PV}(hl:a.length=c.length)(h:∀ t∈uM ops o,pat a t=pat c t):vO (ops.toList.map (·.dst)) o a=vO (ops.toList.map (·.dst)) o c:=by
 unfold vO;split
 ·rfl
 ·rename_i g w hg
  have hd:qR5 (ops.toList.map (·.dst)) g=(ops[g]?).bind (·.dst):=by
   unfold qR5;rw[zO9];have:ops.toList[g]?=ops[g]?:=by simp
   rw[this];cases ops[g]? <;> rfl
  unfold qP5;rw[hd]
  cases ht:(ops[g]?).bind (·.dst) with
  | none=>rfl
  | some t =>
    simp only;rw[qYL hl (h t (zQV _ (by rw[hg];simp[ht])))]
def zEU (ops:Array Oper)(S:Array Bool)(p:Nat):Prop:=∀ (j:Nat) (o:Oper),ops[j]?=some o->qZ o=true->(sel S j ↔ j < p)
structure zI1 (P:Program) (B:Nat) (nm:Nm) (ops:Array Oper) (zFH:List PV) (n0:Nat) (En:Nat->List PV) (Hs:Nat->PHp) (Z0:Nat->Prop) (H0:IH) (m0:Nat->Nat) (ph0:PHp) (f0:Inj) (w0:World) (S:Array Bool) (a:Act) (w:World) (p:Nat) (Z:Nat->Prop) (H:IH) (m:Nat->Nat) (f:Inj) (zFD:Env):Prop where
 size:S.size=ops.size
 clo:Clo ops S
 cut:zEU ops S p
 ple:p<=n0
 sl:∀ i,sel S i->i < n0
 rel:Rel P f H w
 grow:Grow f0 H0 w0 f H w
 zGW:qD P f zFD a.tmps.toList
 marks:Marks B f w a.defers
 hp:Hp P Z H (own m (Hs p))
 hb:H.base<=H.size
 env:VRL P Z H (own m (Hs p)) (qFT ops S zFH (En n0)) zFD
 step:Step Z0 H0 (own m0 ph0) Z H (own m (Hs p))
 kr:KR (inP nm) (own m0 ph0) (own m (Hs p))
theorem qON {k:Nat}:∀ {l:List PV},(∀ t,noK k (pat l t)=true)->zY k l=true
 | [],_=>rfl
 | x::l,h=>by
   simp only[zY,zOT];refine⟨h 0,qON fun t=>?_⟩;have:=h (t+1);exact this
theorem qU3 {k:Nat}{l:List PV}(h:zY k l=true)(t:Nat):noK k (pat l t)=true:=by
 unfold pat;rw[qF]
 cases he:l[t]? with
 | none=>rfl
 | some x=>exact wL h he
theorem qTO {B:Nat}{F0:Fence}(hF:aY F0)(hns:vR P G nat)(ht:qSL P nat tab)(t:TrI P tab nm (ops.toList.map (·.dst)) (dBo ops) (ops.toList.take n0) zFH ph0 En Hs V 0 E F N W)(hn:n0<=ops.size)(hlast:∀ i j,i < n0->n0<=j->j < ops.size->vQ (Region.before ops) i j=true)(st:zG8 ops)(hal:aN ops=true)
 (hck:mQ (dBo ops) zFH E F N W=true) {K:Exit->Act->World->Prop} {Z0:Nat->Prop} {H0:IH} {m0:Nat->Nat} {f0:Inj} {w0:World}
 (hdone:∀ (fuel:Nat) (S:Array Bool) (Z:Nat->Prop) (H:IH) (m:Nat->Nat) (f:Inj) (zFD:Env) (a:Act) (w:World),unl ops S<=fuel->S.size=ops.size->(∀ i,i < ops.size->(sel S i ↔ i < n0))->Rel P f H w->Grow f0 H0 w0 f H w->qD P f zFD a.tmps.toList->Marks B f w a.defers->Hp P Z H (own m (Hs n0))->H.base<=H.size->VRL P Z H (own m (Hs n0)) (En n0) zFD ->
   Step Z0 H0 (own m0 ph0) Z H (own m (Hs n0))->KR (inP nm) (own m0 ph0) (own m (Hs n0))->wpAnyIn F0 0 P .any ops K fuel S a w)
 (hG:gG G f0) (hok:u7 (qX f0) ops=true) :
 ∀ (fuel:Nat) (S:Array Bool) (a:Act) (w:World),unl ops S<=fuel->(∃ p Z H m f zFD,zI1 P B nm ops zFH n0 En Hs Z0 H0 m0 ph0 f0 w0 S a w p Z H m f zFD)->wpAnyIn F0 0 P .any ops K fuel S a w:=by
 intro fuel;have hl:=aP (t.e hn) hn _ (zOV _)
 have zF9:∀ {S:Array Bool},S.size=ops.size->Region.ready .any ops S=[]->∀ j,j < ops.size->sel S j:=by
  intro S hsz hr j
  induction j using Nat.strongRecOn with
  | _ j ih =>
    intro hj;by_cases hs:sel S j
    ·exact hs
    ·exfalso
     have:j∈Region.ready .any ops S:=by
      rw[mem_ready];refine⟨?_,ops[j],by simp[hj],fun e he hb=>?_⟩
      ·unfold sel at hs;rw[zO8] at hs ⊢;rw[zPA (by omega)] at hs ⊢;simpa using hs
      ·have hlt:=st.back j ops[j] (by simp[hj]) e he hb;exact ih e.on hlt (by omega)
     rw[hr] at this;cases this
 have done:∀ {fuel:Nat} {S:Array Bool} {a:Act} {w:World} {p:Nat} {Z:Nat->Prop} {H:IH} {m:Nat->Nat} {f:Inj} {zFD:Env},unl ops S<=fuel->zI1 P B nm ops zFH n0 En Hs Z0 H0 m0 ph0 f0 w0 S a w p Z H m f zFD->(∀ j,j < n0->sel S j)->wpAnyIn F0 0 P .any ops K fuel S a w:=by
  intro fuel S a w p Z H m f zFD hu s hall;have hcut:∀ k o,ops[k]?=some o->qZ o=true->(k < p ↔ k < n0):=fun k o hk he=>(s.cut k o hk he).symm.trans ⟨fun h=>s.sl k h,fun h=>hall k h⟩
  have hpe:Hs p=Hs n0:=qQ6 t hn hal (n0 - p) p n0 (by have:=s.ple;omega) (zOV _) hcut
  have hcur:qFT ops S zFH (En n0)=En n0:=by
   apply qCE
   ·rw[vE,hl]
   intro x;rw[fD hl];by_cases hw:wr ops S x
   ·rw[if_pos hw]
   ·rw[if_neg hw];exact (qGK (t.e hn) hn _ (zOV _) fun k o hk ho hd=>hw ⟨k,o,ho,hall k hk,hd⟩).symm
  have e1:=s.hp;have e2:=s.env;have e3:=s.step;have e4:=s.kr;rw[hpe] at e1 e2 e3 e4;rw[hcur] at e2;exact hdone fuel S Z H m f zFD a w hu s.size (fun i _=>⟨s.sl i,hall i⟩) s.rel s.grow s.zGW s.marks e1 s.hb e2 e3 e4
 induction fuel with
 | zero =>
   rintro S a w hu ⟨p,Z,H,m,f,zFD,s⟩
   have hall:∀ j,j < n0->sel S j:=by
    intro j hj;have hz:unl ops S=0:=by omega
    unfold unl at hz;have:=zSF.1 hz j (zRU.2 (by omega));unfold sel;simpa using this
   exact done hu s hall
 | succ fuel ih =>
   rintro S a w hu ⟨p,Z,H,m,f,zFD,s⟩;by_cases hall:∀ j,j < n0->sel S j
   ·exact done hu s hall
   refine⟨fun hrd=>absurd (fun j hj=>zF9 s.size hrd j (by omega)) hall,fun j hj=>?_⟩;rw[mem_ready] at hj;obtain⟨hjl,o,ho,zHS⟩:=hj;have hlt:=(zO4.1 ho).1;have hjs:j < S.size:=by rw[s.size];exact hlt
   have hnj:¬ sel S j:=by
    unfold sel;rw[zO8,zPA hjs] at hjl ⊢;simp only[zQ2] at hjl ⊢;rw[hjl];simp
   have hpre:∀ i,vQ (Region.before ops) i j=true->sel S i:=by
    intro i hb;obtain⟨e,he,hbd,h3⟩:=(qGN st.back ho).1 hb;have:=zHS e he hbd;rcases h3 with rfl | h3
    ·exact this
    ·exact s.clo _ _ h3 this
   have hj0:j < n0:=by
    rcases Nat.lt_or_ge j n0 with h | h
    ·exact h
    ·exact absurd (fun i hi=>hpre i (hlast i j hi h hlt)) hall
   have zLL:∀ i,sel (S.setIfInBounds j true) i->i < n0:=fun i hi=>by
    rcases (yK hjs).1 hi with rfl | h
    ·exact hj0
    ·exact s.sl i h
   have hu':unl ops (S.setIfInBounds j true)<=fuel:=by
    have:=qMW hlt s.size hnj;omega
   have zGT:=qN4 hjs s.clo hpre
   have hok':o.op.operands.toList.all (jB (qX f))=true:=by
    have h1:=kV (zF s.grow.le) hok;unfold u7 at h1;exact zOW.1 h1 o (zP4 (toL ho))
   have hag:=q4F (t.e hn) hn st s.clo s.sl ho (by omega) hnj hpre;have hlen:(qFT ops S zFH (En n0)).length=(En j).length:=by rw[vE,aP (t.e hn) hn j (by omega)]
   have hval:=qEH hag;have hwc:=qCU (ops:=ops) hlen hag;have hGf:=hG.mono s.grow.le;obtain⟨q1,q2,q3⟩:=qSE t hn ho hj0;unfold wpOpIn;rw[ho];simp only
   -- the next stand
   have zMW:∃ p',p'<=n0∧zEU ops (S.setIfInBounds j true) p'∧(qZ o=true->p'=j+1)∧(qZ o=false->p'=p):=by
    cases he:qZ o with
    | true =>
      refine⟨j+1,hj0,?_,fun _=>rfl,fun h=>(by cases h)⟩;intro k q hk hq;rw[yK hjs];by_cases hkj:k=j
      ·subst hkj;simp
      ·rcases qK9 hal k j q o hkj hk ho hq he with h | h
       ·have:=wB st.back j k h;exact⟨fun _=>by omega,fun _=>.inr (hpre k h)⟩
       ·have:=wB st.back k j h;refine⟨fun hs=>?_,fun h2=>by omega⟩;rcases hs with hs | hs
        ·exact absurd hs hkj
        ·exact absurd (s.clo j k h hs) hnj
    | false =>
      refine⟨p,s.ple,?_,fun h=>(by cases h),fun _=>rfl⟩;intro k q hk hq;rw[yK hjs];have hkj:k≠j:=by intro e;subst e;rw[ho] at hk;cases hk;rw[he] at hq;cases hq
      simp only[hkj,false_or];exact s.cut k q hk hq
   have zHF:qZ o=true->Hs p=Hs j:=fun he=>by
    have key:∀ k q,ops[k]?=some q->qZ q=true->(k < p ↔ k < j):=fun k q hk hq=>by
     refine (s.cut k q hk hq).symm.trans ?_;by_cases hkj:k=j
     ·subst hkj;exact⟨fun h=>absurd h hnj,fun h=>absurd h (zR4 _)⟩
     ·rcases qK9 hal k j q o hkj hk ho hq he with h | h
      ·have:=wB st.back j k h;exact⟨fun _=>this,fun _=>hpre k h⟩
      ·have:=wB st.back k j h;exact⟨fun hs=>absurd (s.clo j k h hs) hnj,fun hlt=>by omega⟩
    by_cases hpj:p<=j
    ·exact qQ6 t hn hal (j - p) p j (by omega) (by omega) key
    ·exact (qQ6 t hn hal (p - j) j p (by omega) s.ple fun k q hk hq=>(key k q hk hq).symm).symm
   obtain⟨p',zKD,hcut',hpE,hpF⟩:=zMW;have zHV:=qP6 (t.e hn) hn st ho hj0 hjs
   rcases q3 with ⟨g1,g2,g3,g4,g5⟩ | ⟨g1,g2,g3⟩
   ·rw[<-hwc] at g1;rw[y9 s.zGW (sP s.env g1),if_pos rfl]
    -- the operation at this state
    have hx:∃ php,zK P tab (qH nm o.dst) o (qFT ops S zFH (En n0)) (Hs p)=.ok (V j) php∧php=Hs p':=by
     cases he:qZ o with
     | true =>
       refine⟨Hs (j+1),?_,by rw[hpE he]⟩;rw[zHF he,bR hval];exact g2
     | false =>
       have d1:=(pE (oD he).1 (oD he).2 g2).1;refine⟨Hs p,?_,by rw[hpF he]⟩;rw[bR hval];rw[d1] at g2;have hFj:=g5 he;unfold mQ at hck;rw[zOT] at hck;have zMX:=zOW.1 hck.1 _ hFj
       have zLM:∀ k q,ops[k]?=some q->qZ q=true->(¬ (k < p ↔ k < j))->∀ ws,(k,ws)∈E->(∀ l∈dlT o (En j),l ∉ ws)∨q2J ops.toList j k=true:=by
        intro k q hk hq hne ws hws;have:=zOW.1 zMX _ hws;simp only[zPH,zPZ,zOW] at this;rcases this with h | h | h
        ·exfalso;have hsk:=s.cut k q hk hq;unfold qO5 at h;rw[zPZ] at h;rcases h with h | h
         ·have h1:=hpre k h;have h2:=wB st.back j k h;exact hne ⟨fun _=>h2,fun _=>hsk.1 h1⟩
         ·have h2:=wB st.back k j h;have h1:¬ sel S k:=fun hs=>hnj (s.clo j k h hs)
          exact hne ⟨fun hh=>absurd (hsk.2 hh) h1,fun hh=>by omega⟩
        ·exact .inr h
        ·refine .inl fun l hl hm=>?_
         have:=h l hl;simp[hm] at this
       by_cases hpj:p<=j
       ·refine ((qMU t hn hal ho (oD he).1 (oD he).2 (j - p) p j (by omega) (by omega) fun k q h1 h2 hk hq ws hws=>?_) _ _).2 g2;exact zLM k q hk hq (fun h=>by have:=h.2 h2;omega) ws hws
       ·refine ((qMU t hn hal ho (oD he).1 (oD he).2 (p - j) j p (by omega) s.ple fun k q h1 h2 hk hq ws hws=>?_) _ _).1 g2;exact zLM k q hk hq (fun h=>by have:=h.1 h2;omega) ws hws
    obtain⟨php,hx,rfl⟩:=hx
    have hfresh:needs o.op=true->fresh nm (qH nm o.dst) (qFT ops S zFH (En n0)) (Hs p)=true:=by
     intro hnd
     have he:qZ o=true:=by
      unfold qZ yQ qL xL
      cases hop:o.op <;> rw[hop] at hnd <;> first | (cases hnd;done) | rfl | skip
      ·cases hg:o.guard.isNone <;> rfl
      ·rename_i c;obtain⟨cal,args,ts⟩:=c
       cases cal with
       | builtin b=>cases b <;> first | (cases hnd;done) | rfl
       | _=>cases hnd
     obtain⟨i1,i2,i3⟩:=g3 hnd;unfold fresh;rw[i1,zHF he,i2,zQ8,zTI];unfold mQ at hck;rw[zOT] at hck;have hN:=zOW.1 hck.2 _ i3;rw[zOT] at hN;refine qON fun x=>?_
     rw[fD hl];by_cases hw:wr ops S x
     ·rw[if_pos hw];obtain⟨i,oi,hi,hs,hd⟩:=hw;by_cases hx':x < zFH.length
      ·have hin:=(zO4.1 hi).1;rw[qR6 (t.e hn) hn st hi hd hx' _ (zOV _) (s.sl i hs)];have hW:=zOW.1 hN.2 _ (qSE t hn hi (s.sl i hs)).2.1;simp only[zPH,zPZ] at hW;rcases hW with h | h | h
       ·have:=zOU h;subst this;exact absurd hs hnj
       ·exact absurd (s.clo j i h hs) hnj
       ·exact h
      ·rw[oO (env:=En n0) (t:=x) (by rw[hl];exact zSX hx')];rfl
     ·rw[if_neg hw];exact qU3 hN.1 x
    refine qOQ (nm:=nm) hF hns ht s.rel hGf s.zGW hok' s.hp s.hb s.env (qKB hx) hfresh fun Z' m' u H' f' v' w' b1 b2 b3 b4 b5 k1 k2 k3=>?_
    refine ih _ _ _ hu' ⟨p',Z',H',m',f',zFD.zFZ o.dst u,by simp[s.size],zGT,hcut',zKD,zLL,k1,s.grow.trans k2,jL (s.zGW.mono k2.le) k3 _,by rw[put_defers];exact Marks.grow k2 _ s.marks,b1,by rw[b4.base];exact zPF s.hb b4.size,?_,s.step.trans b4,s.kr.trans b5⟩;rw[zHV];exact b3.zFZ b2 _
   ·rw[<-hwc] at g1;rw[y9 s.zGW (sP s.env g1),if_neg (by simp)]
    have hpp:Hs p'=Hs p:=by
     cases he:qZ o with
     | true=>rw[hpE he,g3,zHF he]
     | false=>rw[hpF he]
    have e1:=s.hp;have e2:=s.env;have e3:=s.step;have e4:=s.kr;rw[<-hpp] at e1 e2 e3 e4;refine⟨fun g _=>hF.fn g,ih _ _ _ hu' ⟨p',Z,H,m,f,zFD.zFZ o.dst undef,by simp[s.size],zGT,hcut',zKD,zLL,s.rel,s.grow,jL s.zGW .undef _,by rw[put_defers];exact s.marks,e1,s.hb,?_,e3,e4⟩⟩;rw[zHV,g2];exact e2.zFZ (VRL.zHU (vs:=#[]) .nil) _
theorem qGM {F0:Fence}{K:Exit->Act->World->Prop}:∀ {fuel:Nat} {S:Array Bool} {a:Act} {w:World},S.size=ops.size->(∀ i,i < ops.size->sel S i)->K .normal a w->wpAnyIn F0 0 P .any ops K fuel S a w:=by
 intro fuel S a w hsz hall hk
 have hr:∀ x,x ∉ Region.ready .any ops S:=by
  intro x hx;rw[mem_ready] at hx;obtain⟨h1,o,ho,_⟩:=hx;have hlt:=(zO4.1 ho).1;have:=hall x hlt;unfold sel at this;rw[zO8,zPA (by rw[hsz];exact hlt)] at h1 this;simp only[zQ2] at h1 this;rw[h1] at this;cases this
 cases fuel with
 | zero=>exact⟨List.eq_nil_iff_forall_not_mem.2 hr,hk⟩
 | succ fuel=>exact⟨fun _=>hk,fun j hj=>absurd hj (hr j)⟩
theorem zGA.zLN (s:zGA P good nat G tab){env:List PV}{ph:PHp}{Qt:List PV->PHp->Prop}{B:Nat}(hn:n0<=ops.size)(hlast:∀ i j,i < n0->n0<=j->j < ops.size->vQ (Region.before ops) i j=true)(hok:u7 G ops=true)(hd:aK ops=true)(hal:aN ops=true)
 (h:(qL0 P tab nm (ops.toList.map (·.dst)) (dBo ops) env 0 (ops.toList.take n0) env ph [] [] [] []).holds P G Qt) {Z:Nat->Prop} {H:IH} {m:Nat->Nat} {zFD:Env} {F:Fence} {f:Inj} {a:Act} {w:World} {K:Exit->Act->World->Prop}
 (hp:Hp P Z H (own m ph)) (hb:H.base<=H.size) (he:VRL P Z H (own m ph) env zFD) (hF:aY F) (hR:Rel P f H w) (hG:gG G f) (zFL:qD P f zFD a.tmps.toList) (hm:Marks B f w a.defers)
 (hdone:∀ (e:List PV) (p:PHp) (fuel:Nat) (S:Array Bool) (Z':Nat->Prop) (H':IH) (m':Nat->Nat) (f':Inj) (zF6:Env) (a':Act) (w':World),Qt e p->unl ops S<=fuel->S.size=ops.size->(∀ i,i < ops.size->(sel S i ↔ i < n0))->Rel P f' H' w'->Grow f H w f' H' w'->qD P f' zF6 a'.tmps.toList->Marks B f' w' a'.defers->Hp P Z' H' (own m' p)->H'.base<=H'.size->VRL P Z' H' (own m' p) e zF6 ->
   Step Z H (own m ph) Z' H' (own m' p)->KR (inP nm) (own m ph) (own m' p)->wpAnyIn F 0 P .any ops K fuel S a' w'):wpAnyIn F 0 P .any ops K ops.size (Array.replicate ops.size false) a { w with drawn:=w.drawn+1 }:=by
 obtain⟨En,Hs,V,E',F',N',W',t,_,_,_,_,hck,hq⟩:=qH4 _ _ _ _ _ _ _ _ h;have st:=(qM7 hd).z;have hl:(ops.toList.take n0).length=n0:=by simp;omega
 rw[hl] at hq;refine qTO (B:=B) hF s.s.spec s.t t hn hlast st hal hck (Z0:=Z) (H0:=H) (m0:=m) (f0:=f) (w0:=w) ?_ hG (kV hG hok) _ _ _ _ ?_ ⟨0,Z,H,m,f,zFD,?_⟩
 ·intro fuel S Z' H' m' f' zF6 a' w' k1 k2 k3 k4 k5 k6 k7 k8 k9 k10 k11 k12;exact hdone _ _ fuel S Z' H' m' f' zF6 a' w' hq k1 k2 k3 k4 k5 k6 k7 k8 k9 k10 k11 k12
 ·unfold unl;have:=zS0 (p:=fun j=>!(Array.replicate ops.size false).getD j false) (l:=List.range ops.size);simpa using this
 ·have hsel:∀ i,¬ sel (Array.replicate ops.size false) i:=by
   intro i h;unfold sel at h;rw[zO8,zSK] at h;split at h <;> simp at h
  have hcur:qFT ops (Array.replicate ops.size false) env (En n0)=env:=by
   apply qCE (vE _ _);intro x;rw[fD (aP (t.e hn) hn _ (zOV _)),if_neg];rintro⟨j,o,_,h2,_⟩;exact hsel j h2
  have hw:Grow f H w f H { w with drawn:=w.drawn+1 }:=Grow.world rfl;have h0:=t.h0;refine⟨by simp,fun i j _ hj=>absurd hj (hsel j),fun j o _ _=>⟨fun h=>absurd h (hsel j),fun h=>by omega⟩,zQZ _,fun i h=>absurd h (hsel i),hR.world rfl,hw,zFL,Marks.grow hw _ hm,by rw[h0];exact hp,hb,by rw[h0,hcur];exact he,by rw[h0];exact .refl _ _ _,by rw[h0];exact .refl _ _⟩
end
theorem zGA.drw (s:zGA P good nat G tab){id:Nat}{ops:Array Oper}{env:List PV}{ph:PHp}{Q:PQ}{ds:List (Option Tmp)}(hok:u7 G ops=true)(hd:aK ops=true)(hal:aN ops=true)(hds:ops.toList.map (·.dst)=ds)
 (h:(qL0 P tab nm ds (dBo ops) env 0 ops.toList env ph [] [] [] []).holds P G fun e p=>Q .normal e p):Runs P G rd nm (.region id ops true) env ph Q:=by
 intro Z H m zFD hp hb he B F f a w hF hr hR hG zFL hm;subst hds;have ht:ops.toList.take ops.size=ops.toList:=by rw[<-zPU];exact zRX
 refine wpIn_region_any s.s.mix (s.zLN (B:=B) (n0:=ops.size) (K:=jN P B f H w _) (zOV _) (fun i j _ h1 h2=>by omega) hok hd hal (by rw[ht];exact h) hp hb he hF hR hG zFL hm ?_);intro e p fuel S Z' H' m' f' zF6 a' w' hq k1 k2 k3 k4 k5 k6 k7 k8 k9 k10 k11 k12;exact qGM k2 (fun i hi=>(k3 i hi).2 hi) ⟨⟨.normal,zF6,H'⟩,f',⟨Z',m',e,p,k8,k10,k11,k12,hq⟩,rfl,k4,k5,k6,k7⟩
end Go.Idl
