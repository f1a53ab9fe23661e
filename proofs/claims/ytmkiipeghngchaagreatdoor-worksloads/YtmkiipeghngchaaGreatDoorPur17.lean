/- Regions that draw their order, on values without a heap: whatever the order. Conditions: none. -/
import Derived.Test.YtmkiipeghngchaaGreatDoorPur16
import Derived.OrdersIn
set_option linter.all false
namespace Go.Idl
variable [Gc]
variable {P:Program}{G:Nat->Bool}{nat:xG}{tab:uW}{nm:Nm}{good:FuncId->Bool}{rd:Bool}
structure zGL (ops:Array Oper):Prop where
 back:∀ j o,ops[j]?=some o->∀ e∈o.after,Region.binds .any e=true->e.on < j
 dst:∀ (i j:Nat) (o p:Oper) (d:Tmp),i≠j->ops[i]?=some o->ops[j]?=some p->o.dst=some d->p.dst≠some d
 reads:∀ (i j:Nat) (o p:Oper) (d:Tmp),i≠j->ops[i]?=some o->ops[j]?=some p->o.dst=some d->d∈uL ops p ->
  vQ (Region.before ops) i j=true∨(qM o=false∧vQ (Region.before ops) j i=true)
theorem Stat.z {ops:Array Oper}(st:Stat ops):zGL ops:=⟨st.back,st.dst,st.reads⟩
noncomputable def pat (env:List PV)(t:Nat):PV:=(zH env t).getD .unk
theorem oW {env:List PV}{t:Nat}(h:env.length<=t):pat env t=.unk:=by simp[pat,qF,zPK h]
theorem qGI (env:List PV)(d:Option Tmp)(v:PV)(t:Nat):pat (yK env d v) t=if d=some t∧t < env.length then v else pat env t:=by
 cases d with
 | none=>simp[yK]
 | some d =>
   simp only[yK,pat,qF,qW,zO4,zOG];by_cases h:d=t
   ·subst h;by_cases hl:d < env.length
    ·simp[hl]
    ·simp[hl]
   ·simp[h]
theorem qT3 (env:List PV)(d:Option Tmp)(v:PV):(yK env d v).length=env.length:=by
 cases d with
 | none=>rfl
 | some d=>simp[yK,qW]
theorem qUQ {a b:List PV}(hl:a.length=b.length){t:Nat}(h:pat a t=pat b t):zH a t=zH b t:=by
 simp only[pat,qF] at h ⊢;by_cases ht:t < a.length
 ·rw[zOC ht,zOC (by omega)] at h ⊢;simpa using h
 ·rw[zPK (by omega),zPK (by omega)]
theorem qBN {a b:List PV}(hl:a.length=b.length)(h:∀ t,pat a t=pat b t):a=b:=by
 apply zPR;intro t;have:=qUQ hl (h t)
 rwa [qF,qF] at this
section
variable {n0:Nat}{ops:Array Oper}{zEU:List PV}{ph0:PHp}{En:Nat->List PV}{Hs:Nat->PHp}{V:Nat->PV}{E F:List (Nat×List Nat)}{N:List (Nat×Nat)}{W:List (Nat×PV)}
theorem qR4 {ds:List (Option Tmp)}{b:DB}(t:TrI P tab nm ds b (ops.toList.take n0) zEU ph0 En Hs V 0 E F N W)(hn:n0<=ops.size){i:Nat}{o:Oper}(h:ops[i]?=some o)(hi:i < n0) :
 En (i+1)=yK (En i) o.dst (V i)∧(0+i,V i)∈W ∧
 ((vM ds o (En i)=some true∧zK P tab (qH nm o.dst) o (En i) (Hs i)=.ok (V i) (Hs (i+1))∧(needs o.op=true->inP nm (qH nm o.dst)=true∧aK (qH nm o.dst) (Hs i)=true∧(0+i,qH nm o.dst)∈N) ∧
    (zA o=true->(0+i,wlT nm o (En i))∈E)∧(zA o=false->(0+i,dlT o (En i))∈F)) ∨
   (vM ds o (En i)=some false∧V i=.tup []∧Hs (i+1)=Hs i)):=t.step i o (by rw[List.getElem?_take_of_lt hi];simpa using h)
structure TrE (n0:Nat) (ops:Array Oper) (zEU:List PV) (En:Nat->List PV) (V:Nat->PV):Prop where
 e0:En 0=zEU
 step:∀ i o,ops[i]?=some o->i < n0->En (i+1)=yK (En i) o.dst (V i)
theorem TrI.e {ds:List (Option Tmp)}{b:DB}(t:TrI P tab nm ds b (ops.toList.take n0) zEU ph0 En Hs V 0 E F N W)(hn:n0<=ops.size):TrE n0 ops zEU En V:=⟨t.e0,fun i o h hi=>(qR4 t hn h hi).1⟩
theorem aG (t:TrE n0 ops zEU En V)(hn:n0<=ops.size):∀ i,i<=n0->(En i).length=zEU.length
 | 0,_=>by rw[t.e0]
 | i+1,h=>by
   obtain⟨o,ho⟩:∃ o,ops[i]?=some o:=⟨_,zOP (by omega)⟩
   rw[t.step _ _ ho (by omega),qT3,aG t hn i (by omega)]
theorem qF9 (t:TrE n0 ops zEU En V)(hn:n0<=ops.size){x:Nat}:∀ i,i<=n0->(∀ k o,k < i->ops[k]?=some o->o.dst≠some x)->pat (En i) x=pat zEU x
 | 0,_,_=>by rw[t.e0]
 | i+1,h,hk=>by
   obtain⟨o,ho⟩:∃ o,ops[i]?=some o:=⟨_,zOP (by omega)⟩
   rw[t.step _ _ ho (by omega),qGI,if_neg (fun hc=>hk i o (by omega) ho hc.1)];exact qF9 t hn i (by omega) fun k o hk1=>hk k o (by omega)
theorem qS9 (t:TrE n0 ops zEU En V)(hn:n0<=ops.size)(st:zGL ops){k x:Nat}{o:Oper}(ho:ops[k]?=some o)(hd:o.dst=some x)(hx:x < zEU.length):∀ i,i<=n0->k < i->pat (En i) x=V k
 | 0,_,h=>by omega
 | i+1,h,hk=>by
   obtain⟨p,hp⟩:∃ o,ops[i]?=some o:=⟨_,zOP (by omega)⟩
   rw[t.step _ _ hp (by omega),qGI];by_cases e:k=i
   ·subst e;rw[ho] at hp;cases hp;rw[if_pos ⟨hd,by rw[aG t hn k (by omega)];exact hx⟩]
   ·rw[if_neg (fun hc=>st.dst k i o p x e ho hp hd hc.1)];exact qS9 t hn st ho hd hx i (by omega) (by omega)
theorem qPT {ds:List (Option Tmp)}{b:DB}(t:TrI P tab nm ds b (ops.toList.take n0) zEU ph0 En Hs V 0 E F N W)(hn:n0<=ops.size)(hal:aH ops=true){i:Nat}{o:Oper}(ho:ops[i]?=some o)(hi:i < n0)(he:zA o=false):Hs (i+1)=Hs i:=by
 rcases (qR4 t hn ho hi).2.2 with ⟨_,h,_⟩ | ⟨_,_,h⟩
 ·exact (nZ (oD he).1 (oD he).2 h).1
 ·exact h
theorem qRL {ds:List (Option Tmp)}{b:DB}(t:TrI P tab nm ds b (ops.toList.take n0) zEU ph0 En Hs V 0 E F N W)(hn:n0<=ops.size)(hal:aH ops=true):∀ (n p q:Nat),q=p+n->q<=n0->(∀ k o,ops[k]?=some o->zA o=true->(k < p ↔ k < q))->Hs p=Hs q
 | 0,p,q,hq,_,_=>by rw[hq];rfl
 | n+1,p,q,hq,hle,h=>by
   obtain⟨o,ho⟩:∃ o,ops[p]?=some o:=⟨_,zOP (by omega)⟩
   have he:zA o=false:=by
    cases he:zA o with
    | false=>rfl
    | true=>have:=h p o ho he;omega
   rw[<-qPT t hn hal ho (by omega) he];refine qRL t hn hal n (p+1) q (by omega) hle fun k o' hk hk'=>?_
   have:=h k o' hk hk';constructor
   ·intro h1;omega
   ·intro h1;have:=this.2 h1;omega
theorem qGN {ds:List (Option Tmp)}{b:DB}(t:TrI P tab nm ds b (ops.toList.take n0) zEU ph0 En Hs V 0 E F N W)(hn:n0<=ops.size){x j:Nat}:∀ i,i<=n0->j<=i->(∀ k o,j<=k->k < i->ops[k]?=some o->o.dst≠some x)->pat (En i) x=pat (En j) x
 | i,h,hj,hk=>by
   by_cases e:j=i
   ·rw[e]
   ·cases i with
    | zero=>omega
    | succ i =>
      obtain⟨o,ho⟩:∃ o,ops[i]?=some o:=⟨_,zOP (by omega)⟩
      rw[(qR4 t hn ho (by omega)).1,qGI,if_neg (fun hc=>hk i o (by omega) (by omega) ho hc.1)];exact qGN t hn i (by omega) (by omega) fun k o h1 h2=>hk k o h1 (by omega)
theorem qNS {ds:List (Option Tmp)}{b:DB}(t:TrI P tab nm ds b (ops.toList.take n0) zEU ph0 En Hs V 0 E F N W)(hn:n0<=ops.size)(hal:aH ops=true){j:Nat}{oj:Oper}(hoj:ops[j]?=some oj)(hf:yR oj=false)(ha:qM oj=false):∀ (n p q:Nat),q=p+n->q<=n0 ->
 (∀ k o,p<=k->k < q->ops[k]?=some o->zA o=true->∀ ws,(k,ws)∈E->(∀ l∈dlT oj (En j),l ∉ ws)∨qZQ ops.toList j k=true)->mV P tab oj (En j) (Hs p) (Hs q)
 | 0,p,q,hq,_,_=>by rw[hq];exact .refl _
 | n+1,p,q,hq,hle,h=>by
   obtain⟨o,ho⟩:∃ o,ops[p]?=some o:=⟨_,zOP (by omega)⟩
   have h1:mV P tab oj (En j) (Hs p) (Hs (p+1)):=by
    cases he:zA o with
    | false=>rw[qPT t hn hal ho (by omega) he];exact .refl _
    | true =>
      rcases (qR4 t hn ho (by omega)).2.2 with ⟨_,hx,_,hE,_⟩ | ⟨_,_,hx⟩
      ·have hE:=hE he;rw[zOV] at hE;rcases h p o (zOA _) (by omega) ho he _ hE with h2 | h2
       ·exact .tk hf ha fun l hl=>qV7 hx (h2 l hl)
       ·have toL:∀ i:Nat,ops.toList[i]?=ops[i]?:=fun i=>zRN ..
        unfold qZQ at h2;rw[toL,toL,hoj,ho] at h2;simp only at h2;split at h2
        ·rename_i ty a c ty' a' c' e1 e2;simp only[zN8] at h2;obtain⟨⟨⟨⟨c1,c2⟩,c3⟩,c4⟩,c5⟩:=h2;cases zN9 c1;cases zN9 c2;cases zN9 c3;have hjp:j < p:=zOH c4
         have nw:∀ k o,j<=k->k < p->ops[k]?=some o->o.dst≠some a∧o.dst≠some c:=fun k o k1 k2 k3=>by
          have:=zOB.1 c5 (o,k) (zQS.2 (by rw[toL];exact k3));have g1:Nat.ble j k=true:=zOR k1;have g2:Nat.blt k p=true:=zOR k2;simp only[g1,g2,zR9,zRJ] at this
          cases hd:o.dst with
          | none=>exact⟨fun e=>by (cases e),fun e=>by (cases e)⟩
          | some d =>
            rw[hd] at this;simp only[zN8,zO0] at this;exact⟨fun e=>by cases e;rw[aC] at this;exact absurd this.1 (by decide),fun e=>by cases e;rw[aC] at this;exact absurd this.2 (by decide)⟩
         exact .look e1 e2 (qGN t hn p (by omega) (by omega) fun k o k1 k2 k3=>(nw k o k1 k2 k3).1) (qGN t hn p (by omega) (by omega) fun k o k1 k2 k3=>(nw k o k1 k2 k3).2) hx
        ·cases h2
      ·rw[hx];exact .refl _
   exact h1.trans (qNS t hn hal hoj hf ha n (p+1) q (by omega) hle fun k o' hk1 hk2=>h k o' (by omega) hk2)
open Classical in
noncomputable def qER (ops:Array Oper)(S:Array Bool)(zEU eF:List PV):List PV:=(List.range zEU.length).map fun t=>if wr ops S t then pat eF t else pat zEU t
theorem vD (S:Array Bool)(eF:List PV):(qER ops S zEU eF).length=zEU.length:=by simp[qER]
open Classical in
theorem fA {S:Array Bool}{eF:List PV}(hl:eF.length=zEU.length)(t:Nat):pat (qER ops S zEU eF) t=if wr ops S t then pat eF t else pat zEU t:=by
 by_cases ht:t < zEU.length
 ·simp[qER,pat,qF,zSP ht]
 ·rw[oW (by rw[vD];omega),oW (by omega),oW (by omega)];simp
theorem q3H (t:TrE n0 ops zEU En V)(hn:n0<=ops.size)(st:zGL ops){S:Array Bool}(zGJ:Clo ops S)(hsl:∀ i,sel S i->i < n0){j:Nat}{o:Oper}(ho:ops[j]?=some o)(hjn0:j<=n0)(hj:¬ sel S j)(hp:∀ i,vQ (Region.before ops) i j=true->sel S i) :
 ∀ x∈uL ops o,pat (qER ops S zEU (En n0)) x=pat (En j) x:=by
 intro x hx;have hjn:=(zOJ.1 ho).1
 have before:∀ {k:Nat} {q:Oper},k≠j->ops[k]?=some q->q.dst=some x->vQ (Region.before ops) k j=true∨vQ (Region.before ops) j k=true:=fun hk hq hd=>by
  rcases st.reads _ j _ o x hk hq ho hd hx with h | ⟨_,h⟩
  ·exact .inl h
  ·exact .inr h
 rw[fA (aG t hn _ (zOA _))];by_cases hw:wr ops S x
 ·rw[if_pos hw];obtain⟨i,oi,hi,hs,hd⟩:=hw;have hij:i≠j:=fun e=>hj (e ▸ hs)
  have hb:vQ (Region.before ops) i j=true:=by
   rcases before hij hi hd with h | h
   ·exact h
   ·exact absurd (zGJ j i h hs) hj
  have hlt:=wB st.back j i hb;by_cases hx':x < zEU.length
  ·have:=hsl i hs;rw[qS9 t hn st hi hd hx' _ (zOA _) (by omega),qS9 t hn st hi hd hx' j (by omega) hlt]
  ·rw[oW (env:=En n0) (t:=x) (by rw[aG t hn _ (zOA _)];exact zSB hx'),oW (env:=En j) (t:=x) (by rw[aG t hn j (by omega)];exact zSB hx')]
 ·rw[if_neg hw];refine (qF9 t hn j (by omega) fun k q hk hq hd=>?_).symm;rcases before (by omega) hq hd with h | h
  ·exact hw ⟨k,q,hq,hp k h,hd⟩
  ·have:=wB st.back k j h;omega
theorem qQ9 (t:TrE n0 ops zEU En V)(hn:n0<=ops.size)(st:zGL ops){S:Array Bool}{j:Nat}{o:Oper}(ho:ops[j]?=some o)(hj0:j < n0)(hjs:j < S.size) :
 qER ops (S.setIfInBounds j true) zEU (En n0)=yK (qER ops S zEU (En n0)) o.dst (V j):=by
 have hl:=aG t hn _ (zOA _);have hjn:=(zOJ.1 ho).1;apply qBN
 ·rw[qT3,vD,vD]
 intro x;rw[qGI,vD,fA hl,fA hl];by_cases hd:o.dst=some x
 ·have hw:wr ops (S.setIfInBounds j true) x:=⟨j,o,ho,(yN hjs).2 (.inl rfl),hd⟩
  rw[if_pos hw];by_cases hx:x < zEU.length
  ·rw[if_pos ⟨hd,hx⟩,qS9 t hn st ho hd hx _ (zOA _) hj0]
  ·rw[if_neg (c:=o.dst=some x∧x < zEU.length) (fun h=>hx h.2),oW (by omega),oW (by omega)];simp
 ·rw[if_neg (c:=o.dst=some x∧x < zEU.length) (fun h=>hd h.1)]
  have:wr ops (S.setIfInBounds j true) x ↔ wr ops S x:=by
   constructor
   ·rintro⟨i,oi,h1,h2,h3⟩;rcases (yN hjs).1 h2 with rfl | h2
    ·rw[ho] at h1;cases h1;exact absurd h3 hd
    ·exact⟨i,oi,h1,h2,h3⟩
   ·rintro⟨i,oi,h1,h2,h3⟩;exact⟨i,oi,h1,(yN hjs).2 (.inr h2),h3⟩
  by_cases hw:wr ops S x
  ·rw[if_pos hw,if_pos (this.2 hw)]
  ·rw[if_neg hw,if_neg (fun h=>hw (this.1 h))]
theorem qEU {o:Oper}{a c:List PV}(h:∀ t∈uL ops o,pat a t=pat c t):∀ x∈o.op.operands,qK a x=qK c x:=by
 intro x hx
 cases x with
 | tmp t=>exact h t (zPH _ (zQR.2 ⟨.tmp t,zPL.1 hx,rfl⟩))
 | _=>rfl
theorem qCX {o:Oper}{a c:List PV}(hl:a.length=c.length)(h:∀ t∈uL ops o,pat a t=pat c t):vM (ops.toList.map (·.dst)) o a=vM (ops.toList.map (·.dst)) o c:=by
 unfold vM;split
 ·rfl
 ·rename_i g w hg
  have hd:qSD (ops.toList.map (·.dst)) g=(ops[g]?).bind (·.dst):=by
   unfold qSD;rw[zOO];have:ops.toList[g]?=ops[g]?:=by simp
   rw[this];cases ops[g]? <;> rfl
  unfold qQ6;rw[hd]
  cases ht:(ops[g]?).bind (·.dst) with
  | none=>rfl
  | some t =>
    simp only;rw[qUQ hl (h t (zQB _ (by rw[hg];simp[ht])))]
def zD0 (ops:Array Oper)(S:Array Bool)(p:Nat):Prop:=∀ (j:Nat) (o:Oper),ops[j]?=some o->zA o=true->(sel S j ↔ j < p)
structure zIE (P:Program) (B:Nat) (nm:Nm) (ops:Array Oper) (zEU:List PV) (n0:Nat) (En:Nat->List PV) (Hs:Nat->PHp) (Z0:Nat->Prop) (H0:IH) (m0:Nat->Nat) (ph0:PHp) (f0:Inj) (w0:World) (S:Array Bool) (a:Act) (w:World) (p:Nat) (Z:Nat->Prop) (H:IH) (m:Nat->Nat) (f:Inj) (zEQ:Env):Prop where
 size:S.size=ops.size
 clo:Clo ops S
 cut:zD0 ops S p
 ple:p<=n0
 sl:∀ i,sel S i->i < n0
 rel:Rel P f H w
 grow:Grow f0 H0 w0 f H w
 zGA:qD P f zEQ a.tmps.toList
 marks:Marks B f w a.defers
 hp:Hp P Z H (own m (Hs p))
 hb:H.base<=H.size
 env:VRL P Z H (own m (Hs p)) (qER ops S zEU (En n0)) zEQ
 step:Step Z0 H0 (own m0 ph0) Z H (own m (Hs p))
 kr:KR (inP nm) (own m0 ph0) (own m (Hs p))
theorem qL5 {k:Nat}:∀ {l:List PV},(∀ t,noK k (pat l t)=true)->z8 k l=true
 | [],_=>rfl
 | x::l,h=>by
   simp only[z8,zN8];refine⟨h 0,qL5 fun t=>?_⟩;have:=h (t+1);exact this
theorem qTQ {k:Nat}{l:List PV}(h:z8 k l=true)(t:Nat):noK k (pat l t)=true:=by
 unfold pat;rw[qF]
 cases he:l[t]? with
 | none=>rfl
 | some x=>exact wM h he
theorem qRV {B:Nat}{F0:Fence}(hF:bL F0)(hns:vU P G nat)(ht:qSA P nat tab)(t:TrI P tab nm (ops.toList.map (·.dst)) (dBo ops) (ops.toList.take n0) zEU ph0 En Hs V 0 E F N W)(hn:n0<=ops.size)(hlast:∀ i j,i < n0->n0<=j->j < ops.size->vQ (Region.before ops) i j=true)(st:zGL ops)(hal:aH ops=true)
 (hck:mX (dBo ops) zEU E F N W=true) {K:Exit->Act->World->Prop} {Z0:Nat->Prop} {H0:IH} {m0:Nat->Nat} {f0:Inj} {w0:World}
 (hdone:∀ (fuel:Nat) (S:Array Bool) (Z:Nat->Prop) (H:IH) (m:Nat->Nat) (f:Inj) (zEQ:Env) (a:Act) (w:World),unl ops S<=fuel->S.size=ops.size->(∀ i,i < ops.size->(sel S i ↔ i < n0))->Rel P f H w->Grow f0 H0 w0 f H w->qD P f zEQ a.tmps.toList->Marks B f w a.defers->Hp P Z H (own m (Hs n0))->H.base<=H.size->VRL P Z H (own m (Hs n0)) (En n0) zEQ ->
   Step Z0 H0 (own m0 ph0) Z H (own m (Hs n0))->KR (inP nm) (own m0 ph0) (own m (Hs n0))->wpAnyIn F0 0 P .any ops K fuel S a w)
 (hG:gF G f0) (hok:gD (qX f0) ops=true) :
 ∀ (fuel:Nat) (S:Array Bool) (a:Act) (w:World),unl ops S<=fuel->(∃ p Z H m f zEQ,zIE P B nm ops zEU n0 En Hs Z0 H0 m0 ph0 f0 w0 S a w p Z H m f zEQ)->wpAnyIn F0 0 P .any ops K fuel S a w:=by
 intro fuel;have hl:=aG (t.e hn) hn _ (zOA _)
 have zFM:∀ {S:Array Bool},S.size=ops.size->Region.ready .any ops S=[]->∀ j,j < ops.size->sel S j:=by
  intro S hsz hr j
  induction j using Nat.strongRecOn with
  | _ j ih =>
    intro hj;by_cases hs:sel S j
    ·exact hs
    ·exfalso
     have:j∈Region.ready .any ops S:=by
      rw[mem_ready];refine⟨?_,ops[j],by simp[hj],fun e he hb=>?_⟩
      ·unfold sel at hs;rw[zON] at hs ⊢;rw[zOP (by omega)] at hs ⊢;simpa using hs
      ·have hlt:=st.back j ops[j] (by simp[hj]) e he hb;exact ih e.on hlt (by omega)
     rw[hr] at this;cases this
 have done:∀ {fuel:Nat} {S:Array Bool} {a:Act} {w:World} {p:Nat} {Z:Nat->Prop} {H:IH} {m:Nat->Nat} {f:Inj} {zEQ:Env},unl ops S<=fuel->zIE P B nm ops zEU n0 En Hs Z0 H0 m0 ph0 f0 w0 S a w p Z H m f zEQ->(∀ j,j < n0->sel S j)->wpAnyIn F0 0 P .any ops K fuel S a w:=by
  intro fuel S a w p Z H m f zEQ hu s hall;have hcut:∀ k o,ops[k]?=some o->zA o=true->(k < p ↔ k < n0):=fun k o hk he=>(s.cut k o hk he).symm.trans ⟨fun h=>s.sl k h,fun h=>hall k h⟩
  have hpe:Hs p=Hs n0:=qRL t hn hal (n0 - p) p n0 (by have:=s.ple;omega) (zOA _) hcut
  have hcur:qER ops S zEU (En n0)=En n0:=by
   apply qBN
   ·rw[vD,hl]
   intro x;rw[fA hl];by_cases hw:wr ops S x
   ·rw[if_pos hw]
   ·rw[if_neg hw];exact (qF9 (t.e hn) hn _ (zOA _) fun k o hk ho hd=>hw ⟨k,o,ho,hall k hk,hd⟩).symm
  have e1:=s.hp;have e2:=s.env;have e3:=s.step;have e4:=s.kr;rw[hpe] at e1 e2 e3 e4;rw[hcur] at e2;exact hdone fuel S Z H m f zEQ a w hu s.size (fun i _=>⟨s.sl i,hall i⟩) s.rel s.grow s.zGA s.marks e1 s.hb e2 e3 e4
 induction fuel with
 | zero =>
   rintro S a w hu ⟨p,Z,H,m,f,zEQ,s⟩
   have hall:∀ j,j < n0->sel S j:=by
    intro j hj;have hz:unl ops S=0:=by omega
    unfold unl at hz;have:=zRU.1 hz j (zRA.2 (by omega));unfold sel;simpa using this
   exact done hu s hall
 | succ fuel ih =>
   rintro S a w hu ⟨p,Z,H,m,f,zEQ,s⟩;by_cases hall:∀ j,j < n0->sel S j
   ·exact done hu s hall
   refine⟨fun hrd=>absurd (fun j hj=>zFM s.size hrd j (by omega)) hall,fun j hj=>?_⟩;rw[mem_ready] at hj;obtain⟨hjl,o,ho,zG5⟩:=hj;have hlt:=(zOJ.1 ho).1;have hjs:j < S.size:=by rw[s.size];exact hlt
   have hnj:¬ sel S j:=by
    unfold sel;rw[zON,zOP hjs] at hjl ⊢;simp only[zQH] at hjl ⊢;rw[hjl];simp
   have hpre:∀ i,vQ (Region.before ops) i j=true->sel S i:=by
    intro i hb;obtain⟨e,he,hbd,h3⟩:=(qHD st.back ho).1 hb;have:=zG5 e he hbd;rcases h3 with rfl | h3
    ·exact this
    ·exact s.clo _ _ h3 this
   have hj0:j < n0:=by
    rcases Nat.lt_or_ge j n0 with h | h
    ·exact h
    ·exact absurd (fun i hi=>hpre i (hlast i j hi h hlt)) hall
   have zKZ:∀ i,sel (S.setIfInBounds j true) i->i < n0:=fun i hi=>by
    rcases (yN hjs).1 hi with rfl | h
    ·exact hj0
    ·exact s.sl i h
   have hu':unl ops (S.setIfInBounds j true)<=fuel:=by
    have:=qNG hlt s.size hnj;omega
   have zF6:=qOJ hjs s.clo hpre
   have hok':o.op.operands.toList.all (jB (qX f))=true:=by
    have h1:=kZ (zG s.grow.le) hok;unfold gD at h1;exact zOB.1 h1 o (zPG (toL ho))
   have hag:=q3H (t.e hn) hn st s.clo s.sl ho (by omega) hnj hpre;have hlen:(qER ops S zEU (En n0)).length=(En j).length:=by rw[vD,aG (t.e hn) hn j (by omega)]
   have hval:=qEU hag;have hwc:=qCX (ops:=ops) hlen hag;have hGf:=hG.mono s.grow.le;obtain⟨q1,q2,q3⟩:=qR4 t hn ho hj0;unfold wpOpIn;rw[ho];simp only
   -- the next stand
   have zMB:∃ p',p'<=n0∧zD0 ops (S.setIfInBounds j true) p'∧(zA o=true->p'=j+1)∧(zA o=false->p'=p):=by
    cases he:zA o with
    | true =>
      refine⟨j+1,hj0,?_,fun _=>rfl,fun h=>(by cases h)⟩;intro k q hk hq;rw[yN hjs];by_cases hkj:k=j
      ·subst hkj;simp
      ·rcases qJT hal k j q o hkj hk ho hq he with h | h
       ·have:=wB st.back j k h;exact⟨fun _=>by omega,fun _=>.inr (hpre k h)⟩
       ·have:=wB st.back k j h;refine⟨fun hs=>?_,fun h2=>by omega⟩;rcases hs with hs | hs
        ·exact absurd hs hkj
        ·exact absurd (s.clo j k h hs) hnj
    | false =>
      refine⟨p,s.ple,?_,fun h=>(by cases h),fun _=>rfl⟩;intro k q hk hq;rw[yN hjs];have hkj:k≠j:=by intro e;subst e;rw[ho] at hk;cases hk;rw[he] at hq;cases hq
      simp only[hkj,false_or];exact s.cut k q hk hq
   have zGS:zA o=true->Hs p=Hs j:=fun he=>by
    have key:∀ k q,ops[k]?=some q->zA q=true->(k < p ↔ k < j):=fun k q hk hq=>by
     refine (s.cut k q hk hq).symm.trans ?_;by_cases hkj:k=j
     ·subst hkj;exact⟨fun h=>absurd h hnj,fun h=>absurd h (zRK _)⟩
     ·rcases qJT hal k j q o hkj hk ho hq he with h | h
      ·have:=wB st.back j k h;exact⟨fun _=>this,fun _=>hpre k h⟩
      ·have:=wB st.back k j h;exact⟨fun hs=>absurd (s.clo j k h hs) hnj,fun hlt=>by omega⟩
    by_cases hpj:p<=j
    ·exact qRL t hn hal (j - p) p j (by omega) (by omega) key
    ·exact (qRL t hn hal (p - j) j p (by omega) s.ple fun k q hk hq=>(key k q hk hq).symm).symm
   obtain⟨p',zJR,hcut',hpE,hpF⟩:=zMB;have zG8:=qQ9 (t.e hn) hn st ho hj0 hjs
   rcases q3 with ⟨g1,g2,g3,g4,g5⟩ | ⟨g1,g2,g3⟩
   ·rw[<-hwc] at g1;rw[y9 s.zGA (rQ s.env g1),if_pos rfl]
    -- the operation at this state
    have hx:∃ php,zK P tab (qH nm o.dst) o (qER ops S zEU (En n0)) (Hs p)=.ok (V j) php∧php=Hs p':=by
     cases he:zA o with
     | true =>
       refine⟨Hs (j+1),?_,by rw[hpE he]⟩;rw[zGS he,bC hval];exact g2
     | false =>
       have d1:=(nZ (oD he).1 (oD he).2 g2).1;refine⟨Hs p,?_,by rw[hpF he]⟩;rw[bC hval];rw[d1] at g2;have hFj:=g5 he;unfold mX at hck;rw[zN8] at hck;have zMC:=zOB.1 hck.1 _ hFj
       have zK0:∀ k q,ops[k]?=some q->zA q=true->(¬ (k < p ↔ k < j))->∀ ws,(k,ws)∈E->(∀ l∈dlT o (En j),l ∉ ws)∨qZQ ops.toList j k=true:=by
        intro k q hk hq hne ws hws;have:=zOB.1 zMC _ hws;simp only[zOV,zPB,zOB] at this;rcases this with h | h | h
        ·exfalso;have hsk:=s.cut k q hk hq;unfold qO5 at h;rw[zPB] at h;rcases h with h | h
         ·have h1:=hpre k h;have h2:=wB st.back j k h;exact hne ⟨fun _=>h2,fun _=>hsk.1 h1⟩
         ·have h2:=wB st.back k j h;have h1:¬ sel S k:=fun hs=>hnj (s.clo j k h hs)
          exact hne ⟨fun hh=>absurd (hsk.2 hh) h1,fun hh=>by omega⟩
        ·exact .inr h
        ·refine .inl fun l hl hm=>?_
         have:=h l hl;simp[hm] at this
       by_cases hpj:p<=j
       ·refine ((qNS t hn hal ho (oD he).1 (oD he).2 (j - p) p j (by omega) (by omega) fun k q h1 h2 hk hq ws hws=>?_) _ _).2 g2;exact zK0 k q hk hq (fun h=>by have:=h.2 h2;omega) ws hws
       ·refine ((qNS t hn hal ho (oD he).1 (oD he).2 (p - j) j p (by omega) s.ple fun k q h1 h2 hk hq ws hws=>?_) _ _).1 g2;exact zK0 k q hk hq (fun h=>by have:=h.1 h2;omega) ws hws
    obtain⟨php,hx,rfl⟩:=hx
    have hfresh:needs o.op=true->fresh nm (qH nm o.dst) (qER ops S zEU (En n0)) (Hs p)=true:=by
     intro hnd
     have he:zA o=true:=by
      unfold zA yR qM xN
      cases hop:o.op <;> rw[hop] at hnd <;> first | (cases hnd;done) | rfl | skip
      ·cases hg:o.guard.isNone <;> rfl
      ·rename_i c;obtain⟨cal,args,ts⟩:=c
       cases cal with
       | builtin b=>cases b <;> first | (cases hnd;done) | rfl
       | _=>cases hnd
     obtain⟨i1,i2,i3⟩:=g3 hnd;unfold fresh;rw[i1,zGS he,i2,zQM,zSV];unfold mX at hck;rw[zN8] at hck;have hN:=zOB.1 hck.2 _ i3;rw[zN8] at hN;refine qL5 fun x=>?_
     rw[fA hl];by_cases hw:wr ops S x
     ·rw[if_pos hw];obtain⟨i,oi,hi,hs,hd⟩:=hw;by_cases hx':x < zEU.length
      ·have hin:=(zOJ.1 hi).1;rw[qS9 (t.e hn) hn st hi hd hx' _ (zOA _) (s.sl i hs)];have hW:=zOB.1 hN.2 _ (qR4 t hn hi (s.sl i hs)).2.1;simp only[zOV,zPB] at hW;rcases hW with h | h | h
       ·have:=zN9 h;subst this;exact absurd hs hnj
       ·exact absurd (s.clo j i h hs) hnj
       ·exact h
      ·rw[oW (env:=En n0) (t:=x) (by rw[hl];exact zSB hx')];rfl
     ·rw[if_neg hw];exact qTQ hN.1 x
    refine qM3 (nm:=nm) hF hns ht s.rel hGf s.zGA hok' s.hp s.hb s.env (qJC hx) hfresh fun Z' m' u H' f' v' w' b1 b2 b3 b4 b5 k1 k2 k3=>?_
    refine ih _ _ _ hu' ⟨p',Z',H',m',f',zEQ.zFD o.dst u,by simp[s.size],zF6,hcut',zJR,zKZ,k1,s.grow.trans k2,jI (s.zGA.mono k2.le) k3 _,by rw[put_defers];exact Marks.grow k2 _ s.marks,b1,by rw[b4.base];exact zOT s.hb b4.size,?_,s.step.trans b4,s.kr.trans b5⟩;rw[zG8];exact b3.zFD b2 _
   ·rw[<-hwc] at g1;rw[y9 s.zGA (rQ s.env g1),if_neg (by simp)]
    have hpp:Hs p'=Hs p:=by
     cases he:zA o with
     | true=>rw[hpE he,g3,zGS he]
     | false=>rw[hpF he]
    have e1:=s.hp;have e2:=s.env;have e3:=s.step;have e4:=s.kr;rw[<-hpp] at e1 e2 e3 e4;refine⟨fun g _=>hF.fn g,ih _ _ _ hu' ⟨p',Z,H,m,f,zEQ.zFD o.dst undef,by simp[s.size],zF6,hcut',zJR,zKZ,s.rel,s.grow,jI s.zGA .undef _,by rw[put_defers];exact s.marks,e1,s.hb,?_,e3,e4⟩⟩;rw[zG8,g2];exact e2.zFD (VRL.zG7 (vs:=#[]) .nil) _
theorem qFS {F0:Fence}{K:Exit->Act->World->Prop}:∀ {fuel:Nat} {S:Array Bool} {a:Act} {w:World},S.size=ops.size->(∀ i,i < ops.size->sel S i)->K .normal a w->wpAnyIn F0 0 P .any ops K fuel S a w:=by
 intro fuel S a w hsz hall hk
 have hr:∀ x,x ∉ Region.ready .any ops S:=by
  intro x hx;rw[mem_ready] at hx;obtain⟨h1,o,ho,_⟩:=hx;have hlt:=(zOJ.1 ho).1;have:=hall x hlt;unfold sel at this;rw[zON,zOP (by rw[hsz];exact hlt)] at h1 this;simp only[zQH] at h1 this;rw[h1] at this;cases this
 cases fuel with
 | zero=>exact⟨List.eq_nil_iff_forall_not_mem.2 hr,hk⟩
 | succ fuel=>exact⟨fun _=>hk,fun j hj=>absurd hj (hr j)⟩
theorem zFN.zK1 (s:zFN P good nat G tab){env:List PV}{ph:PHp}{Qt:List PV->PHp->Prop}{B:Nat}(hn:n0<=ops.size)(hlast:∀ i j,i < n0->n0<=j->j < ops.size->vQ (Region.before ops) i j=true)(hok:gD G ops=true)(hd:aF ops=true)(hal:aH ops=true)
 (h:(qLR P tab nm (ops.toList.map (·.dst)) (dBo ops) env 0 (ops.toList.take n0) env ph [] [] [] []).holds P G Qt) {Z:Nat->Prop} {H:IH} {m:Nat->Nat} {zEQ:Env} {F:Fence} {f:Inj} {a:Act} {w:World} {K:Exit->Act->World->Prop}
 (hp:Hp P Z H (own m ph)) (hb:H.base<=H.size) (he:VRL P Z H (own m ph) env zEQ) (hF:bL F) (hR:Rel P f H w) (hG:gF G f) (zEY:qD P f zEQ a.tmps.toList) (hm:Marks B f w a.defers)
 (hdone:∀ (e:List PV) (p:PHp) (fuel:Nat) (S:Array Bool) (Z':Nat->Prop) (H':IH) (m':Nat->Nat) (f':Inj) (zFJ:Env) (a':Act) (w':World),Qt e p->unl ops S<=fuel->S.size=ops.size->(∀ i,i < ops.size->(sel S i ↔ i < n0))->Rel P f' H' w'->Grow f H w f' H' w'->qD P f' zFJ a'.tmps.toList->Marks B f' w' a'.defers->Hp P Z' H' (own m' p)->H'.base<=H'.size->VRL P Z' H' (own m' p) e zFJ ->
   Step Z H (own m ph) Z' H' (own m' p)->KR (inP nm) (own m ph) (own m' p)->wpAnyIn F 0 P .any ops K fuel S a' w'):wpAnyIn F 0 P .any ops K ops.size (Array.replicate ops.size false) a { w with drawn:=w.drawn+1 }:=by
 obtain⟨En,Hs,V,E',F',N',W',t,_,_,_,_,hck,hq⟩:=qH4 _ _ _ _ _ _ _ _ h;have st:=(qMT hd).z;have hl:(ops.toList.take n0).length=n0:=by simp;omega
 rw[hl] at hq;refine qRV (B:=B) hF s.s.spec s.t t hn hlast st hal hck (Z0:=Z) (H0:=H) (m0:=m) (f0:=f) (w0:=w) ?_ hG (kZ hG hok) _ _ _ _ ?_ ⟨0,Z,H,m,f,zEQ,?_⟩
 ·intro fuel S Z' H' m' f' zFJ a' w' k1 k2 k3 k4 k5 k6 k7 k8 k9 k10 k11 k12;exact hdone _ _ fuel S Z' H' m' f' zFJ a' w' hq k1 k2 k3 k4 k5 k6 k7 k8 k9 k10 k11 k12
 ·unfold unl;have:=zSE (p:=fun j=>!(Array.replicate ops.size false).getD j false) (l:=List.range ops.size);simpa using this
 ·have hsel:∀ i,¬ sel (Array.replicate ops.size false) i:=by
   intro i h;unfold sel at h;rw[zON,zRZ] at h;split at h <;> simp at h
  have hcur:qER ops (Array.replicate ops.size false) env (En n0)=env:=by
   apply qBN (vD _ _);intro x;rw[fA (aG (t.e hn) hn _ (zOA _)),if_neg];rintro⟨j,o,_,h2,_⟩;exact hsel j h2
  have hw:Grow f H w f H { w with drawn:=w.drawn+1 }:=Grow.world rfl;have h0:=t.h0;refine⟨by simp,fun i j _ hj=>absurd hj (hsel j),fun j o _ _=>⟨fun h=>absurd h (hsel j),fun h=>by omega⟩,zP8 _,fun i h=>absurd h (hsel i),hR.world rfl,hw,zEY,Marks.grow hw _ hm,by rw[h0];exact hp,hb,by rw[h0,hcur];exact he,by rw[h0];exact .refl _ _ _,by rw[h0];exact .refl _ _⟩
end
theorem zFN.drw (s:zFN P good nat G tab){id:Nat}{ops:Array Oper}{env:List PV}{ph:PHp}{Q:PQ}{ds:List (Option Tmp)}(hok:gD G ops=true)(hd:aF ops=true)(hal:aH ops=true)(hds:ops.toList.map (·.dst)=ds)
 (h:(qLR P tab nm ds (dBo ops) env 0 ops.toList env ph [] [] [] []).holds P G fun e p=>Q .normal e p):Runs P G rd nm (.region id ops true) env ph Q:=by
 intro Z H m zEQ hp hb he B F f a w hF hr hR hG zEY hm;subst hds;have ht:ops.toList.take ops.size=ops.toList:=by rw[<-zO9];exact zRD
 refine wpIn_region_any s.s.mix (s.zK1 (B:=B) (n0:=ops.size) (K:=jM P B f H w _) (zOA _) (fun i j _ h1 h2=>by omega) hok hd hal (by rw[ht];exact h) hp hb he hF hR hG zEY hm ?_);intro e p fuel S Z' H' m' f' zFJ a' w' hq k1 k2 k3 k4 k5 k6 k7 k8 k9 k10 k11 k12;exact qFS k2 (fun i hi=>(k3 i hi).2 hi) ⟨⟨.normal,zFJ,H'⟩,f',⟨Z',m',e,p,k8,k10,k11,k12,hq⟩,rfl,k4,k5,k6,k7⟩
end Go.Idl
