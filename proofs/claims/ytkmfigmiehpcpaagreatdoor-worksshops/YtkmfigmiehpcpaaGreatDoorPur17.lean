/- Regions that draw their order, on values without a heap: whatever the order. Conditions: none. -/
import Derived.Test.YtkmfigmiehpcpaaGreatDoorPur16
import Derived.OrdersIn
set_option linter.all false
namespace Go.Idl
variable [Gc]
variable {P:Program}{G:Nat->Bool}{nat:xK}{tab:uN}{nm:Nm}{good:FuncId->Bool}{rd:Bool}
structure zF6 (ops:Array Oper):Prop where
 back:∀ j o,ops[j]?=some o->∀ e∈o.after,Region.binds .any e=true->e.on < j
 dst:∀ (i j:Nat) (o p:Oper) (d:Tmp),i≠j->ops[i]?=some o->ops[j]?=some p->o.dst=some d->p.dst≠some d
 reads:∀ (i j:Nat) (o p:Oper) (d:Tmp),i≠j->ops[i]?=some o->ops[j]?=some p->o.dst=some d->d∈wZ ops p ->
  vK (Region.before ops) i j=true∨(qL o=false∧vK (Region.before ops) j i=true)
theorem Stat.z {ops:Array Oper}(st:Stat ops):zF6 ops:=⟨st.back,st.dst,st.reads⟩
noncomputable def pat (env:List PV)(t:Nat):PV:=(zL env t).getD .unk
theorem o7 {env:List PV}{t:Nat}(h:env.length<=t):pat env t=.unk:=by simp[pat,qF,zO9 h]
theorem qGG (env:List PV)(d:Option Tmp)(v:PV)(t:Nat):pat (yQ env d v) t=if d=some t∧t < env.length then v else pat env t:=by
 cases d with
 | none=>simp[yQ]
 | some d =>
   simp only[yQ,pat,qF,qZ,zON,zN2];by_cases h:d=t
   ·subst h;by_cases hl:d < env.length
    ·simp[hl]
    ·simp[hl]
   ·simp[h]
theorem qYG (env:List PV)(d:Option Tmp)(v:PV):(yQ env d v).length=env.length:=by
 cases d with
 | none=>rfl
 | some d=>simp[yQ,qZ]
theorem qYF {a b:List PV}(hl:a.length=b.length){t:Nat}(h:pat a t=pat b t):zL a t=zL b t:=by
 simp only[pat,qF] at h ⊢;by_cases ht:t < a.length
 ·rw[zNX ht,zNX (by omega)] at h ⊢;simpa using h
 ·rw[zO9 (by omega),zO9 (by omega)]
theorem qAP {a b:List PV}(hl:a.length=b.length)(h:∀ t,pat a t=pat b t):a=b:=by
 apply zPB;intro t;have:=qYF hl (h t)
 rwa [qF,qF] at this
section
variable {n0:Nat}{ops:Array Oper}{zEI:List PV}{ph0:PHp}{En:Nat->List PV}{Hs:Nat->PHp}{V:Nat->PV}{E F:List (Nat×List Nat)}{N:List (Nat×Nat)}{W:List (Nat×PV)}
theorem qQ7 {ds:List (Option Tmp)}{b:DB}(t:TrI P tab nm ds b (ops.toList.take n0) zEI ph0 En Hs V 0 E F N W)(hn:n0<=ops.size){i:Nat}{o:Oper}(h:ops[i]?=some o)(hi:i < n0) :
 En (i+1)=yQ (En i) o.dst (V i)∧(0+i,V i)∈W ∧
 ((vI ds o (En i)=some true∧zO P tab (qH nm o.dst) o (En i) (Hs i)=.ok (V i) (Hs (i+1))∧(needs o.op=true->inP nm (qH nm o.dst)=true∧fZ (qH nm o.dst) (Hs i)=true∧(0+i,qH nm o.dst)∈N) ∧
    (zC o=true->(0+i,wlT nm o (En i))∈E)∧(zC o=false->(0+i,dlT o (En i))∈F)) ∨
   (vI ds o (En i)=some false∧V i=.tup []∧Hs (i+1)=Hs i)):=t.step i o (by rw[List.getElem?_take_of_lt hi];simpa using h)
structure TrE (n0:Nat) (ops:Array Oper) (zEI:List PV) (En:Nat->List PV) (V:Nat->PV):Prop where
 e0:En 0=zEI
 step:∀ i o,ops[i]?=some o->i < n0->En (i+1)=yQ (En i) o.dst (V i)
theorem TrI.e {ds:List (Option Tmp)}{b:DB}(t:TrI P tab nm ds b (ops.toList.take n0) zEI ph0 En Hs V 0 E F N W)(hn:n0<=ops.size):TrE n0 ops zEI En V:=⟨t.e0,fun i o h hi=>(qQ7 t hn h hi).1⟩
theorem fV (t:TrE n0 ops zEI En V)(hn:n0<=ops.size):∀ i,i<=n0->(En i).length=zEI.length
 | 0,_=>by rw[t.e0]
 | i+1,h=>by
   obtain⟨o,ho⟩:∃ o,ops[i]?=some o:=⟨_,zOB (by omega)⟩
   rw[t.step _ _ ho (by omega),qYG,fV t hn i (by omega)]
theorem qGK (t:TrE n0 ops zEI En V)(hn:n0<=ops.size){x:Nat}:∀ i,i<=n0->(∀ k o,k < i->ops[k]?=some o->o.dst≠some x)->pat (En i) x=pat zEI x
 | 0,_,_=>by rw[t.e0]
 | i+1,h,hk=>by
   obtain⟨o,ho⟩:∃ o,ops[i]?=some o:=⟨_,zOB (by omega)⟩
   rw[t.step _ _ ho (by omega),qGG,if_neg (fun hc=>hk i o (by omega) ho hc.1)];exact qGK t hn i (by omega) fun k o hk1=>hk k o (by omega)
theorem qRS (t:TrE n0 ops zEI En V)(hn:n0<=ops.size)(st:zF6 ops){k x:Nat}{o:Oper}(ho:ops[k]?=some o)(hd:o.dst=some x)(hx:x < zEI.length):∀ i,i<=n0->k < i->pat (En i) x=V k
 | 0,_,h=>by omega
 | i+1,h,hk=>by
   obtain⟨p,hp⟩:∃ o,ops[i]?=some o:=⟨_,zOB (by omega)⟩
   rw[t.step _ _ hp (by omega),qGG];by_cases e:k=i
   ·subst e;rw[ho] at hp;cases hp;rw[if_pos ⟨hd,by rw[fV t hn k (by omega)];exact hx⟩]
   ·rw[if_neg (fun hc=>st.dst k i o p x e ho hp hd hc.1)];exact qRS t hn st ho hd hx i (by omega) (by omega)
theorem qP6 {ds:List (Option Tmp)}{b:DB}(t:TrI P tab nm ds b (ops.toList.take n0) zEI ph0 En Hs V 0 E F N W)(hn:n0<=ops.size)(hal:fU ops=true){i:Nat}{o:Oper}(ho:ops[i]?=some o)(hi:i < n0)(he:zC o=false):Hs (i+1)=Hs i:=by
 rcases (qQ7 t hn ho hi).2.2 with ⟨_,h,_⟩ | ⟨_,_,h⟩
 ·exact (o6 (nP he).1 (nP he).2 h).1
 ·exact h
theorem qQI {ds:List (Option Tmp)}{b:DB}(t:TrI P tab nm ds b (ops.toList.take n0) zEI ph0 En Hs V 0 E F N W)(hn:n0<=ops.size)(hal:fU ops=true):∀ (n p q:Nat),q=p+n->q<=n0->(∀ k o,ops[k]?=some o->zC o=true->(k < p ↔ k < q))->Hs p=Hs q
 | 0,p,q,hq,_,_=>by rw[hq];rfl
 | n+1,p,q,hq,hle,h=>by
   obtain⟨o,ho⟩:∃ o,ops[p]?=some o:=⟨_,zOB (by omega)⟩
   have he:zC o=false:=by
    cases he:zC o with
    | false=>rfl
    | true=>have:=h p o ho he;omega
   rw[<-qP6 t hn hal ho (by omega) he];refine qQI t hn hal n (p+1) q (by omega) hle fun k o' hk hk'=>?_
   have:=h k o' hk hk';constructor
   ·intro h1;omega
   ·intro h1;have:=this.2 h1;omega
theorem qHH {ds:List (Option Tmp)}{b:DB}(t:TrI P tab nm ds b (ops.toList.take n0) zEI ph0 En Hs V 0 E F N W)(hn:n0<=ops.size){x j:Nat}:∀ i,i<=n0->j<=i->(∀ k o,j<=k->k < i->ops[k]?=some o->o.dst≠some x)->pat (En i) x=pat (En j) x
 | i,h,hj,hk=>by
   by_cases e:j=i
   ·rw[e]
   ·cases i with
    | zero=>omega
    | succ i =>
      obtain⟨o,ho⟩:∃ o,ops[i]?=some o:=⟨_,zOB (by omega)⟩
      rw[(qQ7 t hn ho (by omega)).1,qGG,if_neg (fun hc=>hk i o (by omega) (by omega) ho hc.1)];exact qHH t hn i (by omega) (by omega) fun k o h1 h2=>hk k o h1 (by omega)
theorem qK9 {ds:List (Option Tmp)}{b:DB}(t:TrI P tab nm ds b (ops.toList.take n0) zEI ph0 En Hs V 0 E F N W)(hn:n0<=ops.size)(hal:fU ops=true){j:Nat}{oj:Oper}(hoj:ops[j]?=some oj)(hf:yU oj=false)(ha:qL oj=false):∀ (n p q:Nat),q=p+n->q<=n0 ->
 (∀ k o,p<=k->k < q->ops[k]?=some o->zC o=true->∀ ws,(k,ws)∈E->(∀ l∈dlT oj (En j),l ∉ ws)∨q0H ops.toList j k=true)->sU P tab oj (En j) (Hs p) (Hs q)
 | 0,p,q,hq,_,_=>by rw[hq];exact .refl _
 | n+1,p,q,hq,hle,h=>by
   obtain⟨o,ho⟩:∃ o,ops[p]?=some o:=⟨_,zOB (by omega)⟩
   have h1:sU P tab oj (En j) (Hs p) (Hs (p+1)):=by
    cases he:zC o with
    | false=>rw[qP6 t hn hal ho (by omega) he];exact .refl _
    | true =>
      rcases (qQ7 t hn ho (by omega)).2.2 with ⟨_,hx,_,hE,_⟩ | ⟨_,_,hx⟩
      ·have hE:=hE he;rw[zOR] at hE;rcases h p o (zNV _) (by omega) ho he _ hE with h2 | h2
       ·exact .tk hf ha fun l hl=>qV5 hx (h2 l hl)
       ·have toL:∀ i:Nat,ops.toList[i]?=ops[i]?:=fun i=>zRX ..
        unfold q0H at h2;rw[toL,toL,hoj,ho] at h2;simp only at h2;split at h2
        ·rename_i ty a c ty' a' c' e1 e2;simp only[zNT] at h2;obtain⟨⟨⟨⟨c1,c2⟩,c3⟩,c4⟩,c5⟩:=h2;cases zNU c1;cases zNU c2;cases zNU c3;have hjp:j < p:=zN3 c4
         have nw:∀ k o,j<=k->k < p->ops[k]?=some o->o.dst≠some a∧o.dst≠some c:=fun k o k1 k2 k3=>by
          have:=zNW.1 c5 (o,k) (zQD.2 (by rw[toL];exact k3));have g1:Nat.ble j k=true:=zOA k1;have g2:Nat.blt k p=true:=zOA k2;simp only[g1,g2,zRP,zQQ] at this
          cases hd:o.dst with
          | none=>exact⟨fun e=>by (cases e),fun e=>by (cases e)⟩
          | some d =>
            rw[hd] at this;simp only[zNT,zOE] at this;exact⟨fun e=>by cases e;rw[aA] at this;exact absurd this.1 (by decide),fun e=>by cases e;rw[aA] at this;exact absurd this.2 (by decide)⟩
         exact .look e1 e2 (qHH t hn p (by omega) (by omega) fun k o k1 k2 k3=>(nw k o k1 k2 k3).1) (qHH t hn p (by omega) (by omega) fun k o k1 k2 k3=>(nw k o k1 k2 k3).2) hx
        ·cases h2
      ·rw[hx];exact .refl _
   exact h1.trans (qK9 t hn hal hoj hf ha n (p+1) q (by omega) hle fun k o' hk1 hk2=>h k o' (by omega) hk2)
open Classical in
noncomputable def qDR (ops:Array Oper)(S:Array Bool)(zEI eF:List PV):List PV:=(List.range zEI.length).map fun t=>if wr ops S t then pat eF t else pat zEI t
theorem jZ (S:Array Bool)(eF:List PV):(qDR ops S zEI eF).length=zEI.length:=by simp[qDR]
open Classical in
theorem fK {S:Array Bool}{eF:List PV}(hl:eF.length=zEI.length)(t:Nat):pat (qDR ops S zEI eF) t=if wr ops S t then pat eF t else pat zEI t:=by
 by_cases ht:t < zEI.length
 ·simp[qDR,pat,qF,zR5 ht]
 ·rw[o7 (by rw[jZ];omega),o7 (by omega),o7 (by omega)];simp
theorem q3W (t:TrE n0 ops zEI En V)(hn:n0<=ops.size)(st:zF6 ops){S:Array Bool}(zF4:Clo ops S)(hsl:∀ i,sel S i->i < n0){j:Nat}{o:Oper}(ho:ops[j]?=some o)(hjn0:j<=n0)(hj:¬ sel S j)(hp:∀ i,vK (Region.before ops) i j=true->sel S i) :
 ∀ x∈wZ ops o,pat (qDR ops S zEI (En n0)) x=pat (En j) x:=by
 intro x hx;have hjn:=(zN6.1 ho).1
 have before:∀ {k:Nat} {q:Oper},k≠j->ops[k]?=some q->q.dst=some x->vK (Region.before ops) k j=true∨vK (Region.before ops) j k=true:=fun hk hq hd=>by
  rcases st.reads _ j _ o x hk hq ho hd hx with h | ⟨_,h⟩
  ·exact .inl h
  ·exact .inr h
 rw[fK (fV t hn _ (zNV _))];by_cases hw:wr ops S x
 ·rw[if_pos hw];obtain⟨i,oi,hi,hs,hd⟩:=hw;have hij:i≠j:=fun e=>hj (e ▸ hs)
  have hb:vK (Region.before ops) i j=true:=by
   rcases before hij hi hd with h | h
   ·exact h
   ·exact absurd (zF4 j i h hs) hj
  have hlt:=vY st.back j i hb;by_cases hx':x < zEI.length
  ·have:=hsl i hs;rw[qRS t hn st hi hd hx' _ (zNV _) (by omega),qRS t hn st hi hd hx' j (by omega) hlt]
  ·rw[o7 (env:=En n0) (t:=x) (by rw[fV t hn _ (zNV _)];exact zRT hx'),o7 (env:=En j) (t:=x) (by rw[fV t hn j (by omega)];exact zRT hx')]
 ·rw[if_neg hw];refine (qGK t hn j (by omega) fun k q hk hq hd=>?_).symm;rcases before (by omega) hq hd with h | h
  ·exact hw ⟨k,q,hq,hp k h,hd⟩
  ·have:=vY st.back k j h;omega
theorem qOY (t:TrE n0 ops zEI En V)(hn:n0<=ops.size)(st:zF6 ops){S:Array Bool}{j:Nat}{o:Oper}(ho:ops[j]?=some o)(hj0:j < n0)(hjs:j < S.size) :
 qDR ops (S.setIfInBounds j true) zEI (En n0)=yQ (qDR ops S zEI (En n0)) o.dst (V j):=by
 have hl:=fV t hn _ (zNV _);have hjn:=(zN6.1 ho).1;apply qAP
 ·rw[qYG,jZ,jZ]
 intro x;rw[qGG,jZ,fK hl,fK hl];by_cases hd:o.dst=some x
 ·have hw:wr ops (S.setIfInBounds j true) x:=⟨j,o,ho,(yP hjs).2 (.inl rfl),hd⟩
  rw[if_pos hw];by_cases hx:x < zEI.length
  ·rw[if_pos ⟨hd,hx⟩,qRS t hn st ho hd hx _ (zNV _) hj0]
  ·rw[if_neg (c:=o.dst=some x∧x < zEI.length) (fun h=>hx h.2),o7 (by omega),o7 (by omega)];simp
 ·rw[if_neg (c:=o.dst=some x∧x < zEI.length) (fun h=>hd h.1)]
  have:wr ops (S.setIfInBounds j true) x ↔ wr ops S x:=by
   constructor
   ·rintro⟨i,oi,h1,h2,h3⟩;rcases (yP hjs).1 h2 with rfl | h2
    ·rw[ho] at h1;cases h1;exact absurd h3 hd
    ·exact⟨i,oi,h1,h2,h3⟩
   ·rintro⟨i,oi,h1,h2,h3⟩;exact⟨i,oi,h1,(yP hjs).2 (.inr h2),h3⟩
  by_cases hw:wr ops S x
  ·rw[if_pos hw,if_pos (this.2 hw)]
  ·rw[if_neg hw,if_neg (fun h=>hw (this.1 h))]
theorem qDY {o:Oper}{a c:List PV}(h:∀ t∈wZ ops o,pat a t=pat c t):∀ x∈o.op.operands,qK a x=qK c x:=by
 intro x hx
 cases x with
 | tmp t=>exact h t (zO5 _ (zQB.2 ⟨.tmp t,zO6.1 hx,rfl⟩))
 | _=>rfl
theorem qCT {o:Oper}{a c:List PV}(hl:a.length=c.length)(h:∀ t∈wZ ops o,pat a t=pat c t):vI (ops.toList.map (·.dst)) o a=vI (ops.toList.map (·.dst)) o c:=by
 unfold vI;split
 ·rfl
 ·rename_i g w hg
  have hd:qRN (ops.toList.map (·.dst)) g=(ops[g]?).bind (·.dst):=by
   unfold qRN;rw[zN9];have:ops.toList[g]?=ops[g]?:=by simp
   rw[this];cases ops[g]? <;> rfl
  unfold qOP;rw[hd]
  cases ht:(ops[g]?).bind (·.dst) with
  | none=>rfl
  | some t =>
    simp only;rw[qYF hl (h t (zPR _ (by rw[hg];simp[ht])))]
def zDQ (ops:Array Oper)(S:Array Bool)(p:Nat):Prop:=∀ (j:Nat) (o:Oper),ops[j]?=some o->zC o=true->(sel S j ↔ j < p)
structure zHX (P:Program) (B:Nat) (nm:Nm) (ops:Array Oper) (zEI:List PV) (n0:Nat) (En:Nat->List PV) (Hs:Nat->PHp) (Z0:Nat->Prop) (H0:IH) (m0:Nat->Nat) (ph0:PHp) (f0:Inj) (w0:World) (S:Array Bool) (a:Act) (w:World) (p:Nat) (Z:Nat->Prop) (H:IH) (m:Nat->Nat) (f:Inj) (zEE:Env):Prop where
 size:S.size=ops.size
 clo:Clo ops S
 cut:zDQ ops S p
 ple:p<=n0
 sl:∀ i,sel S i->i < n0
 rel:Rel P f H w
 grow:Grow f0 H0 w0 f H w
 zFW:qE P f zEE a.tmps.toList
 marks:Marks B f w a.defers
 hp:Hp P Z H (own m (Hs p))
 hb:H.base<=H.size
 env:VRL P Z H (own m (Hs p)) (qDR ops S zEI (En n0)) zEE
 step:Step Z0 H0 (own m0 ph0) Z H (own m (Hs p))
 kr:KR (inP nm) (own m0 ph0) (own m (Hs p))
theorem qLG {k:Nat}:∀ {l:List PV},(∀ t,noK k (pat l t)=true)->yC k l=true
 | [],_=>rfl
 | x::l,h=>by
   simp only[yC,zNT];refine⟨h 0,qLG fun t=>?_⟩;have:=h (t+1);exact this
theorem qV3 {k:Nat}{l:List PV}(h:yC k l=true)(t:Nat):noK k (pat l t)=true:=by
 unfold pat;rw[qF]
 cases he:l[t]? with
 | none=>rfl
 | some x=>exact wF h he
theorem qR3 {B:Nat}{F0:Fence}(hF:aZ F0)(hns:vT P G nat)(ht:qR5 P nat tab)(t:TrI P tab nm (ops.toList.map (·.dst)) (dBo ops) (ops.toList.take n0) zEI ph0 En Hs V 0 E F N W)(hn:n0<=ops.size)(hlast:∀ i j,i < n0->n0<=j->j < ops.size->vK (Region.before ops) i j=true)(st:zF6 ops)(hal:fU ops=true)
 (hck:mD (dBo ops) zEI E F N W=true) {K:Exit->Act->World->Prop} {Z0:Nat->Prop} {H0:IH} {m0:Nat->Nat} {f0:Inj} {w0:World}
 (hdone:∀ (fuel:Nat) (S:Array Bool) (Z:Nat->Prop) (H:IH) (m:Nat->Nat) (f:Inj) (zEE:Env) (a:Act) (w:World),unl ops S<=fuel->S.size=ops.size->(∀ i,i < ops.size->(sel S i ↔ i < n0))->Rel P f H w->Grow f0 H0 w0 f H w->qE P f zEE a.tmps.toList->Marks B f w a.defers->Hp P Z H (own m (Hs n0))->H.base<=H.size->VRL P Z H (own m (Hs n0)) (En n0) zEE ->
   Step Z0 H0 (own m0 ph0) Z H (own m (Hs n0))->KR (inP nm) (own m0 ph0) (own m (Hs n0))->wpAnyIn F0 0 P .any ops K fuel S a w)
 (hG:uY G f0) (hok:gJ (zB f0) ops=true) :
 ∀ (fuel:Nat) (S:Array Bool) (a:Act) (w:World),unl ops S<=fuel->(∃ p Z H m f zEE,zHX P B nm ops zEI n0 En Hs Z0 H0 m0 ph0 f0 w0 S a w p Z H m f zEE)->wpAnyIn F0 0 P .any ops K fuel S a w:=by
 intro fuel;have hl:=fV (t.e hn) hn _ (zNV _)
 have zE7:∀ {S:Array Bool},S.size=ops.size->Region.ready .any ops S=[]->∀ j,j < ops.size->sel S j:=by
  intro S hsz hr j
  induction j using Nat.strongRecOn with
  | _ j ih =>
    intro hj;by_cases hs:sel S j
    ·exact hs
    ·exfalso
     have:j∈Region.ready .any ops S:=by
      rw[mem_ready];refine⟨?_,ops[j],by simp[hj],fun e he hb=>?_⟩
      ·unfold sel at hs;rw[zN7] at hs ⊢;rw[zOB (by omega)] at hs ⊢;simpa using hs
      ·have hlt:=st.back j ops[j] (by simp[hj]) e he hb;exact ih e.on hlt (by omega)
     rw[hr] at this;cases this
 have done:∀ {fuel:Nat} {S:Array Bool} {a:Act} {w:World} {p:Nat} {Z:Nat->Prop} {H:IH} {m:Nat->Nat} {f:Inj} {zEE:Env},unl ops S<=fuel->zHX P B nm ops zEI n0 En Hs Z0 H0 m0 ph0 f0 w0 S a w p Z H m f zEE->(∀ j,j < n0->sel S j)->wpAnyIn F0 0 P .any ops K fuel S a w:=by
  intro fuel S a w p Z H m f zEE hu s hall;have hcut:∀ k o,ops[k]?=some o->zC o=true->(k < p ↔ k < n0):=fun k o hk he=>(s.cut k o hk he).symm.trans ⟨fun h=>s.sl k h,fun h=>hall k h⟩
  have hpe:Hs p=Hs n0:=qQI t hn hal (n0 - p) p n0 (by have:=s.ple;omega) (zNV _) hcut
  have hcur:qDR ops S zEI (En n0)=En n0:=by
   apply qAP
   ·rw[jZ,hl]
   intro x;rw[fK hl];by_cases hw:wr ops S x
   ·rw[if_pos hw]
   ·rw[if_neg hw];exact (qGK (t.e hn) hn _ (zNV _) fun k o hk ho hd=>hw ⟨k,o,ho,hall k hk,hd⟩).symm
  have e1:=s.hp;have e2:=s.env;have e3:=s.step;have e4:=s.kr;rw[hpe] at e1 e2 e3 e4;rw[hcur] at e2;exact hdone fuel S Z H m f zEE a w hu s.size (fun i _=>⟨s.sl i,hall i⟩) s.rel s.grow s.zFW s.marks e1 s.hb e2 e3 e4
 induction fuel with
 | zero =>
   rintro S a w hu ⟨p,Z,H,m,f,zEE,s⟩
   have hall:∀ j,j < n0->sel S j:=by
    intro j hj;have hz:unl ops S=0:=by omega
    unfold unl at hz;have:=zRD.1 hz j (zQX.2 (by omega));unfold sel;simpa using this
   exact done hu s hall
 | succ fuel ih =>
   rintro S a w hu ⟨p,Z,H,m,f,zEE,s⟩;by_cases hall:∀ j,j < n0->sel S j
   ·exact done hu s hall
   refine⟨fun hrd=>absurd (fun j hj=>zE7 s.size hrd j (by omega)) hall,fun j hj=>?_⟩;rw[mem_ready] at hj;obtain⟨hjl,o,ho,zGS⟩:=hj;have hlt:=(zN6.1 ho).1;have hjs:j < S.size:=by rw[s.size];exact hlt
   have hnj:¬ sel S j:=by
    unfold sel;rw[zN7,zOB hjs] at hjl ⊢;simp only[zPW] at hjl ⊢;rw[hjl];simp
   have hpre:∀ i,vK (Region.before ops) i j=true->sel S i:=by
    intro i hb;obtain⟨e,he,hbd,h3⟩:=(qGR st.back ho).1 hb;have:=zGS e he hbd;rcases h3 with rfl | h3
    ·exact this
    ·exact s.clo _ _ h3 this
   have hj0:j < n0:=by
    rcases Nat.lt_or_ge j n0 with h | h
    ·exact h
    ·exact absurd (fun i hi=>hpre i (hlast i j hi h hlt)) hall
   have zKN:∀ i,sel (S.setIfInBounds j true) i->i < n0:=fun i hi=>by
    rcases (yP hjs).1 hi with rfl | h
    ·exact hj0
    ·exact s.sl i h
   have hu':unl ops (S.setIfInBounds j true)<=fuel:=by
    have:=qLB hlt s.size hnj;omega
   have zFS:=qLW hjs s.clo hpre
   have hok':o.op.operands.toList.all (kW (zB f))=true:=by
    have h1:=kQ (zI s.grow.le) hok;unfold gJ at h1;exact zNW.1 h1 o (zOX (toL ho))
   have hag:=q3W (t.e hn) hn st s.clo s.sl ho (by omega) hnj hpre;have hlen:(qDR ops S zEI (En n0)).length=(En j).length:=by rw[jZ,fV (t.e hn) hn j (by omega)]
   have hval:=qDY hag;have hwc:=qCT (ops:=ops) hlen hag;have hGf:=hG.mono s.grow.le;obtain⟨q1,q2,q3⟩:=qQ7 t hn ho hj0;unfold wpOpIn;rw[ho];simp only
   -- the next stand
   have zLV:∃ p',p'<=n0∧zDQ ops (S.setIfInBounds j true) p'∧(zC o=true->p'=j+1)∧(zC o=false->p'=p):=by
    cases he:zC o with
    | true =>
      refine⟨j+1,hj0,?_,fun _=>rfl,fun h=>(by cases h)⟩;intro k q hk hq;rw[yP hjs];by_cases hkj:k=j
      ·subst hkj;simp
      ·rcases qI6 hal k j q o hkj hk ho hq he with h | h
       ·have:=vY st.back j k h;exact⟨fun _=>by omega,fun _=>.inr (hpre k h)⟩
       ·have:=vY st.back k j h;refine⟨fun hs=>?_,fun h2=>by omega⟩;rcases hs with hs | hs
        ·exact absurd hs hkj
        ·exact absurd (s.clo j k h hs) hnj
    | false =>
      refine⟨p,s.ple,?_,fun h=>(by cases h),fun _=>rfl⟩;intro k q hk hq;rw[yP hjs];have hkj:k≠j:=by intro e;subst e;rw[ho] at hk;cases hk;rw[he] at hq;cases hq
      simp only[hkj,false_or];exact s.cut k q hk hq
   have zGE:zC o=true->Hs p=Hs j:=fun he=>by
    have key:∀ k q,ops[k]?=some q->zC q=true->(k < p ↔ k < j):=fun k q hk hq=>by
     refine (s.cut k q hk hq).symm.trans ?_;by_cases hkj:k=j
     ·subst hkj;exact⟨fun h=>absurd h hnj,fun h=>absurd h (zQ2 _)⟩
     ·rcases qI6 hal k j q o hkj hk ho hq he with h | h
      ·have:=vY st.back j k h;exact⟨fun _=>this,fun _=>hpre k h⟩
      ·have:=vY st.back k j h;exact⟨fun hs=>absurd (s.clo j k h hs) hnj,fun hlt=>by omega⟩
    by_cases hpj:p<=j
    ·exact qQI t hn hal (j - p) p j (by omega) (by omega) key
    ·exact (qQI t hn hal (p - j) j p (by omega) s.ple fun k q hk hq=>(key k q hk hq).symm).symm
   obtain⟨p',zI8,hcut',hpE,hpF⟩:=zLV;have zGV:=qOY (t.e hn) hn st ho hj0 hjs
   rcases q3 with ⟨g1,g2,g3,g4,g5⟩ | ⟨g1,g2,g3⟩
   ·rw[<-hwc] at g1;rw[xD s.zFW (pR s.env g1),if_pos rfl]
    -- the operation at this state
    have hx:∃ php,zO P tab (qH nm o.dst) o (qDR ops S zEI (En n0)) (Hs p)=.ok (V j) php∧php=Hs p':=by
     cases he:zC o with
     | true =>
       refine⟨Hs (j+1),?_,by rw[hpE he]⟩;rw[zGE he,bC hval];exact g2
     | false =>
       have d1:=(o6 (nP he).1 (nP he).2 g2).1;refine⟨Hs p,?_,by rw[hpF he]⟩;rw[bC hval];rw[d1] at g2;have hFj:=g5 he;unfold mD at hck;rw[zNT] at hck;have zLW:=zNW.1 hck.1 _ hFj
       have zKO:∀ k q,ops[k]?=some q->zC q=true->(¬ (k < p ↔ k < j))->∀ ws,(k,ws)∈E->(∀ l∈dlT o (En j),l ∉ ws)∨q0H ops.toList j k=true:=by
        intro k q hk hq hne ws hws;have:=zNW.1 zLW _ hws;simp only[zOR,zOU,zNW] at this;rcases this with h | h | h
        ·exfalso;have hsk:=s.cut k q hk hq;unfold qOZ at h;rw[zOU] at h;rcases h with h | h
         ·have h1:=hpre k h;have h2:=vY st.back j k h;exact hne ⟨fun _=>h2,fun _=>hsk.1 h1⟩
         ·have h2:=vY st.back k j h;have h1:¬ sel S k:=fun hs=>hnj (s.clo j k h hs)
          exact hne ⟨fun hh=>absurd (hsk.2 hh) h1,fun hh=>by omega⟩
        ·exact .inr h
        ·refine .inl fun l hl hm=>?_
         have:=h l hl;simp[hm] at this
       by_cases hpj:p<=j
       ·refine ((qK9 t hn hal ho (nP he).1 (nP he).2 (j - p) p j (by omega) (by omega) fun k q h1 h2 hk hq ws hws=>?_) _ _).2 g2;exact zKO k q hk hq (fun h=>by have:=h.2 h2;omega) ws hws
       ·refine ((qK9 t hn hal ho (nP he).1 (nP he).2 (p - j) j p (by omega) s.ple fun k q h1 h2 hk hq ws hws=>?_) _ _).1 g2;exact zKO k q hk hq (fun h=>by have:=h.1 h2;omega) ws hws
    obtain⟨php,hx,rfl⟩:=hx
    have hfresh:needs o.op=true->fresh nm (qH nm o.dst) (qDR ops S zEI (En n0)) (Hs p)=true:=by
     intro hnd
     have he:zC o=true:=by
      unfold zC yU qL xN
      cases hop:o.op <;> rw[hop] at hnd <;> first | (cases hnd;done) | rfl | skip
      ·cases hg:o.guard.isNone <;> rfl
      ·rename_i c;obtain⟨cal,args,ts⟩:=c
       cases cal with
       | builtin b=>cases b <;> first | (cases hnd;done) | rfl
       | _=>cases hnd
     obtain⟨i1,i2,i3⟩:=g3 hnd;unfold fresh;rw[i1,zGE he,i2,zP5,zQR];unfold mD at hck;rw[zNT] at hck;have hN:=zNW.1 hck.2 _ i3;rw[zNT] at hN;refine qLG fun x=>?_
     rw[fK hl];by_cases hw:wr ops S x
     ·rw[if_pos hw];obtain⟨i,oi,hi,hs,hd⟩:=hw;by_cases hx':x < zEI.length
      ·have hin:=(zN6.1 hi).1;rw[qRS (t.e hn) hn st hi hd hx' _ (zNV _) (s.sl i hs)];have hW:=zNW.1 hN.2 _ (qQ7 t hn hi (s.sl i hs)).2.1;simp only[zOR,zOU] at hW;rcases hW with h | h | h
       ·have:=zNU h;subst this;exact absurd hs hnj
       ·exact absurd (s.clo j i h hs) hnj
       ·exact h
      ·rw[o7 (env:=En n0) (t:=x) (by rw[hl];exact zRT hx')];rfl
     ·rw[if_neg hw];exact qV3 hN.1 x
    refine qNM (nm:=nm) hF hns ht s.rel hGf s.zFW hok' s.hp s.hb s.env (qIK hx) hfresh fun Z' m' u H' f' v' w' b1 b2 b3 b4 b5 k1 k2 k3=>?_
    refine ih _ _ _ hu' ⟨p',Z',H',m',f',zEE.zE0 o.dst u,by simp[s.size],zFS,hcut',zI8,zKN,k1,s.grow.trans k2,jD (s.zFW.mono k2.le) k3 _,by rw[put_defers];exact Marks.grow k2 _ s.marks,b1,by rw[b4.base];exact zOH s.hb b4.size,?_,s.step.trans b4,s.kr.trans b5⟩;rw[zGV];exact b3.zE0 b2 _
   ·rw[<-hwc] at g1;rw[xD s.zFW (pR s.env g1),if_neg (by simp)]
    have hpp:Hs p'=Hs p:=by
     cases he:zC o with
     | true=>rw[hpE he,g3,zGE he]
     | false=>rw[hpF he]
    have e1:=s.hp;have e2:=s.env;have e3:=s.step;have e4:=s.kr;rw[<-hpp] at e1 e2 e3 e4;refine⟨fun g _=>hF.fn g,ih _ _ _ hu' ⟨p',Z,H,m,f,zEE.zE0 o.dst undef,by simp[s.size],zFS,hcut',zI8,zKN,s.rel,s.grow,jD s.zFW .undef _,by rw[put_defers];exact s.marks,e1,s.hb,?_,e3,e4⟩⟩;rw[zGV,g2];exact e2.zE0 (VRL.zGU (vs:=#[]) .nil) _
theorem qHC {F0:Fence}{K:Exit->Act->World->Prop}:∀ {fuel:Nat} {S:Array Bool} {a:Act} {w:World},S.size=ops.size->(∀ i,i < ops.size->sel S i)->K .normal a w->wpAnyIn F0 0 P .any ops K fuel S a w:=by
 intro fuel S a w hsz hall hk
 have hr:∀ x,x ∉ Region.ready .any ops S:=by
  intro x hx;rw[mem_ready] at hx;obtain⟨h1,o,ho,_⟩:=hx;have hlt:=(zN6.1 ho).1;have:=hall x hlt;unfold sel at this;rw[zN7,zOB (by rw[hsz];exact hlt)] at h1 this;simp only[zPW] at h1 this;rw[h1] at this;cases this
 cases fuel with
 | zero=>exact⟨List.eq_nil_iff_forall_not_mem.2 hr,hk⟩
 | succ fuel=>exact⟨fun _=>hk,fun j hj=>absurd hj (hr j)⟩
theorem zE8.zKP (s:zE8 P good nat G tab){env:List PV}{ph:PHp}{Qt:List PV->PHp->Prop}{B:Nat}(hn:n0<=ops.size)(hlast:∀ i j,i < n0->n0<=j->j < ops.size->vK (Region.before ops) i j=true)(hok:gJ G ops=true)(hd:aD ops=true)(hal:fU ops=true)
 (h:(qH0 P tab nm (ops.toList.map (·.dst)) (dBo ops) env 0 (ops.toList.take n0) env ph [] [] [] []).holds P G Qt) {Z:Nat->Prop} {H:IH} {m:Nat->Nat} {zEE:Env} {F:Fence} {f:Inj} {a:Act} {w:World} {K:Exit->Act->World->Prop}
 (hp:Hp P Z H (own m ph)) (hb:H.base<=H.size) (he:VRL P Z H (own m ph) env zEE) (hF:aZ F) (hR:Rel P f H w) (hG:uY G f) (zEL:qE P f zEE a.tmps.toList) (hm:Marks B f w a.defers)
 (hdone:∀ (e:List PV) (p:PHp) (fuel:Nat) (S:Array Bool) (Z':Nat->Prop) (H':IH) (m':Nat->Nat) (f':Inj) (zE4:Env) (a':Act) (w':World),Qt e p->unl ops S<=fuel->S.size=ops.size->(∀ i,i < ops.size->(sel S i ↔ i < n0))->Rel P f' H' w'->Grow f H w f' H' w'->qE P f' zE4 a'.tmps.toList->Marks B f' w' a'.defers->Hp P Z' H' (own m' p)->H'.base<=H'.size->VRL P Z' H' (own m' p) e zE4 ->
   Step Z H (own m ph) Z' H' (own m' p)->KR (inP nm) (own m ph) (own m' p)->wpAnyIn F 0 P .any ops K fuel S a' w'):wpAnyIn F 0 P .any ops K ops.size (Array.replicate ops.size false) a { w with drawn:=w.drawn+1 }:=by
 obtain⟨En,Hs,V,E',F',N',W',t,_,_,_,_,hck,hq⟩:=qF6 _ _ _ _ _ _ _ _ h;have st:=(qMY hd).z;have hl:(ops.toList.take n0).length=n0:=by simp;omega
 rw[hl] at hq;refine qR3 (B:=B) hF s.s.spec s.t t hn hlast st hal hck (Z0:=Z) (H0:=H) (m0:=m) (f0:=f) (w0:=w) ?_ hG (kQ hG hok) _ _ _ _ ?_ ⟨0,Z,H,m,f,zEE,?_⟩
 ·intro fuel S Z' H' m' f' zE4 a' w' k1 k2 k3 k4 k5 k6 k7 k8 k9 k10 k11 k12;exact hdone _ _ fuel S Z' H' m' f' zE4 a' w' hq k1 k2 k3 k4 k5 k6 k7 k8 k9 k10 k11 k12
 ·unfold unl;have:=zRW (p:=fun j=>!(Array.replicate ops.size false).getD j false) (l:=List.range ops.size);simpa using this
 ·have hsel:∀ i,¬ sel (Array.replicate ops.size false) i:=by
   intro i h;unfold sel at h;rw[zN7,zRH] at h;split at h <;> simp at h
  have hcur:qDR ops (Array.replicate ops.size false) env (En n0)=env:=by
   apply qAP (jZ _ _);intro x;rw[fK (fV (t.e hn) hn _ (zNV _)),if_neg];rintro⟨j,o,_,h2,_⟩;exact hsel j h2
  have hw:Grow f H w f H { w with drawn:=w.drawn+1 }:=Grow.world rfl;have h0:=t.h0;refine⟨by simp,fun i j _ hj=>absurd hj (hsel j),fun j o _ _=>⟨fun h=>absurd h (hsel j),fun h=>by omega⟩,zPO _,fun i h=>absurd h (hsel i),hR.world rfl,hw,zEL,Marks.grow hw _ hm,by rw[h0];exact hp,hb,by rw[h0,hcur];exact he,by rw[h0];exact .refl _ _ _,by rw[h0];exact .refl _ _⟩
end
theorem zE8.drw (s:zE8 P good nat G tab){id:Nat}{ops:Array Oper}{env:List PV}{ph:PHp}{Q:PQ}{ds:List (Option Tmp)}(hok:gJ G ops=true)(hd:aD ops=true)(hal:fU ops=true)(hds:ops.toList.map (·.dst)=ds)
 (h:(qH0 P tab nm ds (dBo ops) env 0 ops.toList env ph [] [] [] []).holds P G fun e p=>Q .normal e p):Runs P G rd nm (.region id ops true) env ph Q:=by
 intro Z H m zEE hp hb he B F f a w hF hr hR hG zEL hm;subst hds;have ht:ops.toList.take ops.size=ops.toList:=by rw[<-zO3];exact zQL
 refine wpIn_region_any s.s.mix (s.zKP (B:=B) (n0:=ops.size) (K:=jE P B f H w _) (zNV _) (fun i j _ h1 h2=>by omega) hok hd hal (by rw[ht];exact h) hp hb he hF hR hG zEL hm ?_);intro e p fuel S Z' H' m' f' zE4 a' w' hq k1 k2 k3 k4 k5 k6 k7 k8 k9 k10 k11 k12;exact qHC k2 (fun i hi=>(k3 i hi).2 hi) ⟨⟨.normal,zE4,H'⟩,f',⟨Z',m',e,p,k8,k10,k11,k12,hq⟩,rfl,k4,k5,k6,k7⟩
end Go.Idl
