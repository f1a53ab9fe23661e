/- Runs told by plain values, part one. Conditions: none. -/
import Derived.Test.YtpnecffgnjijjaaGreatDoorIdlI
set_option linter.all false
namespace Go.Idl
variable {P:Program}
variable {H H':IH}{Z Z':Nat->Prop}{b n o:Nat}{v:Value}{vs ws:List Value}
inductive FV where
 | v (x:Value)
 | l (el:TypeId) (n:Nat) (cs:List FV)
inductive PV where
 | f (x:FV)
 | agg (cs:List PV)
 | tup (cs:List PV)
 | own (k t o n:Nat)
 | ref (k t off:Nat)
 | lp (cs:List FV) (off:Nat)
 | fn (g:FuncId) (first cap:List PV)
 | yl (l:Nat)
 | bq
 | unk
 | mp (k:Nat)
 | asl (el:TypeId) (k n:Nat)
structure PO where
 el:TypeId
 gr:Bool
 cs:List PV
abbrev PHp:=List (Nat×PO)
def qA (k:Nat):PHp->Option PO
 | []=>none
 | (j,o)::l=>cond (k==j) (some o) (qA k l)
def xL (k:Nat)(o:PO):PHp->PHp
 | []=>[]
 | (j,p)::l=>cond (k==j) ((j,o)::l) ((j,p)::xL k o l)
def nN (k:Nat):PHp->PHp
 | []=>[]
 | (j,p)::l=>cond (k==j) (nN k l) ((j,p)::nN k l)
inductive FR (Z:Nat->Prop) (H:IH):FV->Value->Prop
 | v {x:Value} (hp:yF x=true) (h1:oneCell x=true):FR Z H (.v x) x
 | nil {el:TypeId} {a:Option Addr} {c:Nat} (h0:a=none->c=0) (hs:∀ x,a=some x->x.spot=none∨x.spot=some el):FR Z H (.l el 0 []) (.slice a 0 c)
 | l {el:TypeId} {n:Nat} {cs:List FV} {b o:Nat} {sp:Option TypeId} {c:Nat} {vs:List Value} (hz:Z b) (hb:b < H.size) (hn:n<=c) (hs:sp=none∨sp=some el)
    (hl:H.loads b o cs.length=some vs) (hc:∀ (i:Nat) x v,cs[i]?=some x->vs[i]?=some v->FR Z H x v):FR Z H (.l el n cs) (.slice (some ⟨b,o,sp⟩) n c)
theorem xX (h:H.loads b o n=some vs):vs.length=n:=by
 unfold IH.loads at h;split at h
 ·split at h
  ·cases h;simp;omega
  ·cases h
 ·cases h
theorem qKJ (h:H'.get b=H.get b):H'.loads b o n=H.loads b o n:=by
 unfold IH.loads;rw[h]
theorem xK {c:List Value}{el:TypeId}{fz:Nat×Nat}(h:H.get b=some (.cells c.toArray el fz))(hn:o+n<=c.length)(hv:(c.drop o).take n=vs):H.loads b o n=some vs:=by
 unfold IH.loads;rw[h];simp[hn,hv]
theorem FR.mono {x:FV}(h:FR Z H x v)(hz:∀ b,Z b->Z' b)(hs:H.size<=H'.size)(hg:∀ b,Z b->b < H.size->H'.get b=H.get b):FR Z' H' x v:=by
 induction h with
 | v hp h1=>exact .v hp h1
 | nil h0 hs=>exact .nil h0 hs
 | l hZ hb hn hsp hl hc ih=>exact .l (hz _ hZ) (zM4 hb hs) hn hsp (by rw[qKJ (hg _ hZ hb)];exact hl) ih
theorem FR.one {x:FV}(h:FR Z H x v):oneCell v=true:=by
 cases h with
 | v hp h1=>exact h1
 | nil=>rfl
 | l=>rfl
def spec (P:Program)(el:TypeId):Bool:=(szT P el).isNone
def qDK (es:List MapEntry):List PV:=List.flatMap (fun e=>[.f (.v e.key),.f (.v e.val),.f (.v (.int .i64 e.born))]) es
def qDY (H:IH)(b:Nat)(ob:PO):Prop :=
 (ob.el=1000000000∧ob.gr=false∧∃ s,∃ pos:Nat,H.get b=some (.stringIter s pos)∧ob.cs=[.f (.v (.string s)),.f (.v (.int .i64 pos))]) ∨
 (ob.el=1000000001∧ob.gr=false∧∃ es,∃ clk:Nat,H.get b=some (.map es clk)∧ob.cs=.f (.v (.int .i64 clk))::qDK es.toList)
def q7H (sz b:Nat)(ob:PO)(t o n:Nat)(v:Value):Prop :=
 (ob.gr=true∧t=0∧o=0∧n=0∧v=.slice none 0 0)∨((ob.gr=true->t≠0)∧o+n<=t∧(o=0∨o < t)∧v=.slice (some ⟨b,o*sz,cond ob.gr (some ob.el) none⟩) n (t - o))
inductive VR (P:Program) (Z:Nat->Prop) (H:IH) (M:Nat->Option (Nat×PO)):PV->Value->Prop
 | f {x:FV} {v:Value} (h:FR Z H x v):VR P Z H M (.f x) v
 | agg {cs:List PV} {vs:Array Value} (hl:cs.length=vs.size) (hc:∀ (i:Nat) x v,cs[i]?=some x->vs[i]?=some v->VR P Z H M x v):VR P Z H M (.agg cs) (.agg vs)
 | tup {cs:List PV} {vs:Array Value} (hl:cs.length=vs.size) (hc:∀ (i:Nat) x v,cs[i]?=some x->vs[i]?=some v->VR P Z H M x v):VR P Z H M (.tup cs) (.tuple vs)
 | own {k t o n:Nat} {v:Value} (h1:oneCell v=true) (h:∀ b ob,M k=some (b,ob)->∃ sz,szT P ob.el=some sz∧0 < sz∧t*sz<=ob.cs.length∧(t*sz=ob.cs.length->q7H sz b ob t o n v)):VR P Z H M (.own k t o n) v
 | ref {k t off:Nat} {v:Value} (h1:oneCell v=true) (h:∀ b ob,M k=some (b,ob)->t<=ob.cs.length∧(t=ob.cs.length->v=.pointer (some ⟨b,off,none⟩)∧(ob.gr=true->t≠0))):VR P Z H M (.ref k t off) v
 | lp {cs:List FV} {off b o:Nat} {vs:List Value} (hz:Z b) (hb:b < H.size) (hl:H.loads b o cs.length=some vs) (hc:∀ (i:Nat) x v,cs[i]?=some x->vs[i]?=some v->FR Z H x v):VR P Z H M (.lp cs off) (.pointer (some ⟨b,o+off,none⟩))
 | fn {g:FuncId} {first cap:List PV} {fs cs:Array Value} (hf:first.length=fs.size) (hc:cap.length=cs.size) (hfc:∀ (i:Nat) x v,first[i]?=some x->fs[i]?=some v->VR P Z H M x v) (hcc:∀ (i:Nat) x v,cap[i]?=some x->cs[i]?=some v->VR P Z H M x v) :
    VR P Z H M (.fn g first cap) (.func (.func g) fs cs)
 | yl {l:Nat}:VR P Z H M (.yl l) (.func (.yield l) #[] #[])
 | bq {b:Bool}:VR P Z H M .bq (.bool b)
 | unk {v:Value}:VR P Z H M .unk v
 | mp {k:Nat} {v:Value} (h1:oneCell v=true) (h:∀ b ob,M k=some (b,ob)->ob.el=1000000001∧v=.map (some b)):VR P Z H M (.mp k) v
 | asl {el:TypeId} {k n:Nat} {v:Value} (h1:oneCell v=true) (h:∀ b ob,M k=some (b,ob)->n<=ob.cs.length∧(n=ob.cs.length->v=.slice (some ⟨b,0,none⟩) n n)):VR P Z H M (.asl el k n) v
mutual
def noK (k:Nat):PV->Bool
 | .f _=>true
 | .agg cs=>zZ k cs
 | .tup cs=>zZ k cs
 | .own j _ _ _=>!(k==j)
 | .ref j _ _=>!(k==j)
 | .lp _ _=>true
 | .fn _ a b=>zZ k a&&zZ k b
 | .yl _=>true
 | .bq=>true
 | .unk=>true
 | .mp j=>!(k==j)
 | .asl _ j _=>!(k==j)
def zZ (k:Nat):List PV->Bool
 | []=>true
 | x::l=>noK k x&&zZ k l
end
theorem vU {k:Nat}:∀ {l:List PV} {i:Nat} {x:PV},zZ k l=true->l[i]?=some x->noK k x=true
 | y::l,0,x,h,e=>by simp only[zZ,zMY] at h;simp at e;subst e;exact h.1
 | y::l,i+1,x,h,e=>by simp only[zZ,zMY] at h;exact vU h.2 (by simpa using e)
def KR (p:Nat->Bool)(M M':Nat->Option (Nat×PO)):Prop:=∀ k b' ob',M' k=some (b',ob')->(∃ ob,M k=some (b',ob)∧ob.cs.length=ob'.cs.length∧ob.el=ob'.el∧ob.gr=ob'.gr) ∨
 (∃ b ob,M k=some (b,ob)∧ob.cs.length < ob'.cs.length∧ob.el=ob'.el∧(Nat.ble 1000000000 ob.el=true->b=b'))∨p k=true
theorem KR.refl (p:Nat->Bool)(M:Nat->Option (Nat×PO)):KR p M M:=fun k b' ob' h=>.inl ⟨ob',h,rfl,rfl,rfl⟩
theorem VR.mono {Z Z':Nat->Prop}{H H':IH}{M M':Nat->Option (Nat×PO)}{p:Nat->Bool}(hz:∀ b,Z b->Z' b)(hs:H.size<=H'.size)(hg:∀ b,Z b->b < H.size->H'.get b=H.get b)(hk:KR p M M'){x:PV}{v:Value}(h:VR P Z H M x v) :
 (∀ k,p k=true->noK k x=true)->VR P Z' H' M' x v:=by
 induction h with
 | f h=>exact fun _=>.f (h.mono hz hs hg)
 | agg hl hc ih=>exact fun hn=>.agg hl fun i x v h1 h2=>ih i x v h1 h2 fun k hp=>vU (by have:=hn k hp;simpa [noK] using this) h1
 | tup hl hc ih=>exact fun hn=>.tup hl fun i x v h1 h2=>ih i x v h1 h2 fun k hp=>vU (by have:=hn k hp;simpa [noK] using this) h1
 | @own k t o n v h1 h =>
   refine fun hn=>.own h1 fun b ob hM=>?_
   rcases hk k b ob hM with ⟨ob0,h0,h1,h2,h3⟩ | ⟨b0,ob0,h0,h1,h2,h2b⟩ | hp
   ·obtain⟨sz,q1,q2,q3,q4⟩:=h b ob0 h0;refine⟨sz,by rw[<-h2];exact q1,q2,by omega,fun e=>?_⟩;have:=q4 (by omega);unfold q7H at this ⊢;rw[h2,h3] at this;exact this
   ·obtain⟨sz,q1,q2,q3,q4⟩:=h b0 ob0 h0;exact⟨sz,by rw[<-h2];exact q1,q2,by omega,fun e=>by omega⟩
   ·have:=hn k hp;simp[noK] at this
 | @ref k t off v h1 h =>
   refine fun hn=>.ref h1 fun b ob hM=>?_
   rcases hk k b ob hM with ⟨ob0,h0,h1,h2,h3⟩ | ⟨b0,ob0,h0,h1,h2,h2b⟩ | hp
   ·obtain⟨q1,q2⟩:=h b ob0 h0;refine⟨by omega,fun e=>?_⟩;obtain⟨q3,q4⟩:=q2 (by omega);exact⟨q3,fun h=>q4 (by rw[h3];exact h)⟩
   ·obtain⟨q1,q2⟩:=h b0 ob0 h0;exact⟨by omega,fun e=>by omega⟩
   ·have:=hn k hp;simp[noK] at this
 | lp hZ hb hl hc=>exact fun _=>.lp (hz _ hZ) (zM4 hb hs) (by rw[qKJ (hg _ hZ hb)];exact hl) fun i x v h1 h2=>(hc i x v h1 h2).mono hz hs hg
 | fn hf hc hfc hcc i1 i2 =>
   refine fun hn=>.fn hf hc (fun i x v h1 h2=>i1 i x v h1 h2 fun k hp=>vU ?_ h1) (fun i x v h1 h2=>i2 i x v h1 h2 fun k hp=>vU ?_ h1)
   ·have:=hn k hp;simp only[noK,zMY] at this;exact this.1
   ·have:=hn k hp;simp only[noK,zMY] at this;exact this.2
 | yl=>exact fun _=>.yl
 | bq=>exact fun _=>.bq
 | unk=>exact fun _=>.unk
 | @mp k v h1 h =>
   refine fun hn=>.mp h1 fun b ob hM=>?_
   rcases hk k b ob hM with ⟨ob0,h0,h1,h2,h3⟩ | ⟨b0,ob0,h0,h1,h2,h2b⟩ | hp
   ·obtain⟨q1,q2⟩:=h b ob0 h0;exact⟨by rw[<-h2];exact q1,q2⟩
   ·obtain⟨q1,q2⟩:=h b0 ob0 h0;have:=h2b (by rw[q1];rfl);exact⟨by rw[<-h2];exact q1,by rw[<-this];exact q2⟩
   ·have:=hn k hp;simp[noK] at this
 | @asl el k n v h1 h =>
   refine fun hn=>.asl h1 fun b ob hM=>?_
   rcases hk k b ob hM with ⟨ob0,h0,h1,h2,h3⟩ | ⟨b0,ob0,h0,h1,h2,h2b⟩ | hp
   ·obtain⟨q1,q2⟩:=h b ob0 h0;exact⟨by omega,fun e=>q2 (by omega)⟩
   ·obtain⟨q1,q2⟩:=h b0 ob0 h0;exact⟨by omega,fun e=>by omega⟩
   ·have:=hn k hp;simp[noK] at this
structure VRL (P:Program) (Z:Nat->Prop) (H:IH) (M:Nat->Option (Nat×PO)) (xs:List PV) (vs:List Value):Prop where
 len:xs.length=vs.length
 val:∀ (i:Nat) x v,xs[i]?=some x->vs[i]?=some v->VR P Z H M x v
theorem VRL.nil {M:Nat->Option (Nat×PO)}:VRL P Z H M [] []:=⟨rfl,fun i x v h=>by simp at h⟩
theorem VRL.cons {M:Nat->Option (Nat×PO)}{x:PV}{xs:List PV}(h:VR P Z H M x v)(t:VRL P Z H M xs vs):VRL P Z H M (x::xs) (v::vs) :=
 ⟨by simp[t.len],fun i y u h1 h2=>by
   cases i with
   | zero=>simp at h1 h2;subst h1 h2;exact h
   | succ i=>exact t.val i y u (by simpa using h1) (by simpa using h2)⟩
theorem VRL.zFD {M:Nat->Option (Nat×PO)}{x:PV}{xs:List PV}(h:VRL P Z H M (x::xs) ws):∃ v vs,ws=v::vs∧VR P Z H M x v∧VRL P Z H M xs vs:=by
 cases ws with
 | nil=>have:=h.len;simp at this
 | cons v vs=>exact⟨v,vs,rfl,h.val 0 x v rfl rfl,by have:=h.len;simpa using this,fun i y u h1 h2=>h.val (i+1) y u (by simpa using h1) (by simpa using h2)⟩
theorem VRL.zFF {M:Nat->Option (Nat×PO)}(h:VRL P Z H M [] ws):ws=[]:=by
 cases ws with
 | nil=>rfl
 | cons v vs=>have:=h.len;simp at this
theorem VRL.mono {Z Z':Nat->Prop}{H H':IH}{M M':Nat->Option (Nat×PO)}{p:Nat->Bool}(hz:∀ b,Z b->Z' b)(hs:H.size<=H'.size)(hg:∀ b,Z b->b < H.size->H'.get b=H.get b)(hk:KR p M M'){xs:List PV}{vs:List Value}(h:VRL P Z H M xs vs)
 (hn:∀ k,p k=true->zZ k xs=true):VRL P Z' H' M' xs vs:=⟨h.len,fun i x v h1 h2=>(h.val i x v h1 h2).mono hz hs hg hk fun k hp=>vU (hn k hp) h1⟩
theorem VRL.append {M:Nat->Option (Nat×PO)}{xs ys:List PV}(a:VRL P Z H M xs vs)(b:VRL P Z H M ys ws):VRL P Z H M (xs++ys) (vs++ws):=by
 refine⟨by simp[a.len,b.len],fun i x v h1 h2=>?_⟩;by_cases hi:i < xs.length
 ·rw[zON hi] at h1;rw[zON (by rw[<-a.len];exact hi)] at h2;exact a.val i x v h1 h2
 ·rw[zOL (by omega)] at h1;rw[zOL (by rw[<-a.len];omega),<-a.len] at h2;exact b.val _ x v h1 h2
theorem VRL.take {M:Nat->Option (Nat×PO)}{xs:List PV}(a:VRL P Z H M xs vs)(n:Nat):VRL P Z H M (xs.take n) (vs.take n):=by
 refine⟨by simp[a.len],fun i x v h1 h2=>?_⟩;rw[zOO] at h1 h2;split at h1
 ·rename_i hi;rw[if_pos hi] at h2;exact a.val i x v h1 h2
 ·cases h1
theorem VRL.drop {M:Nat->Option (Nat×PO)}{xs:List PV}(a:VRL P Z H M xs vs)(n:Nat):VRL P Z H M (xs.drop n) (vs.drop n):=by
 refine⟨by simp[a.len],fun i x v h1 h2=>?_⟩;rw[zOQ] at h1 h2;exact a.val _ x v h1 h2
theorem VRL.get {M:Nat->Option (Nat×PO)}{xs:List PV}(a:VRL P Z H M xs vs){i:Nat}{x:PV}(h:xs[i]?=some x):∃ v,vs[i]?=some v∧VR P Z H M x v:=by
 have hlt:=(zM6.1 h).1;have hlt':i < vs.length:=by rw[<-a.len];exact hlt
 exact⟨vs[i],zM2 hlt',a.val i x _ h (zM2 hlt')⟩
theorem VRL.set {M:Nat->Option (Nat×PO)}{xs:List PV}(a:VRL P Z H M xs vs){x:PV}(h:VR P Z H M x v)(n:Nat):VRL P Z H M (xs.set n x) (vs.set n v):=by
 refine⟨by simp[a.len],fun i y u h1 h2=>?_⟩;rw[zNU] at h1 h2;by_cases hi:n=i
 ·subst hi;simp only[if_true] at h1 h2;by_cases hl:n < xs.length
  ·rw[if_pos hl] at h1;rw[if_pos (by rw[<-a.len];exact hl)] at h2;cases h1;cases h2;exact h
  ·rw[if_neg hl] at h1;cases h1
 ·rw[if_neg hi] at h1 h2;exact a.val i y u h1 h2
def iv (n:Nat):PV:=.f (.v (.int .i64 n))
def qC8 (x:PV)(since last:Nat)(seen:List Nat):List PV:=[x,iv since,iv last,.agg (seen.map iv)]
def q9M (mb since last:Nat)(seen:List Nat):List Value:=[.map (some mb),.int .i64 since,.int .i64 last,.agg (seen.map fun n=>Value.int .i64 (n:Nat)).toArray]
def MIt (P:Program)(Z:Nat->Prop)(H:IH)(M:Nat->Option (Nat×PO))(b:Nat)(ob:PO):Prop :=
 ob.el=1000000002∧ob.gr=false∧∃ mb since last seen x,H.get b=some (.mapIter (some mb) since (List.toArray seen) last)∧ob.cs=qC8 x since last seen∧VRL P Z H M ob.cs (q9M mb since last seen)
def Lay (P:Program)(Z:Nat->Prop)(H:IH)(M:Nat->Option (Nat×PO))(b:Nat)(ob:PO):Prop :=
 (spec P ob.el=false∧∃ vs,H.get b=some (.cells vs.toArray ob.el (cond ob.gr zN (0,0)))∧VRL P Z H M ob.cs vs∧vs.all oneCell=true)∨(spec P ob.el=true∧(qDY H b ob∨MIt P Z H M b ob))
theorem Lay.mono {M M':Nat->Option (Nat×PO)}{ob:PO}(h:Lay P Z H M b ob)(hg:H'.get b=H.get b)(hm:∀ vs,VRL P Z H M ob.cs vs->VRL P Z' H' M' ob.cs vs):Lay P Z' H' M' b ob:=by
 rcases h with ⟨h1,vs,h2,h3,h4⟩ | ⟨h1,h2 | ⟨h2,h3,mb,since,last,seen,x,h4,h5,h6⟩⟩
 ·exact .inl ⟨h1,vs,hg.trans h2,hm vs h3,h4⟩
 ·refine .inr ⟨h1,.inl ?_⟩;unfold qDY at h2 ⊢;rw[hg];exact h2
 ·exact .inr ⟨h1,.inr ⟨h2,h3,mb,since,last,seen,x,hg.trans h4,h5,hm _ h6⟩⟩
class Gc where
 gc:Nat->Option Obj
 ol:TypeId->Bool:=fun _=>false
def q3G [Gc](Z:Nat->Prop)(H:IH):Prop:=∀ g o,Gc.gc g=some o->Z g∧H.get g=some o
def GlH [Gc](H:IH):Prop:=∀ g o,Gc.gc g=some o->g < H.size∧H.get g=some o
theorem q3G.h [Gc]{Z:Nat->Prop}{H:IH}(h:q3G Z H)(hl:∀ b,Z b->b < H.size):GlH H:=fun g o e=>⟨hl g (h g o e).1,(h g o e).2⟩
def zAO [Gc](b:Nat):Prop:=∃ o,Gc.gc b=some o
theorem q3G.mono [Gc](h:q3G Z H)(hl:∀ b,Z b->b < H.size)(hz:∀ b,Z b->Z' b)(hg:∀ b,Z b->b < H.size->H'.get b=H.get b):q3G Z' H':=fun g o hh=>by
 obtain⟨a,b⟩:=h g o hh;exact⟨hz g a,(hg g a (hl g a)).trans b⟩
structure Hp [Gc] (P:Program) (Z:Nat->Prop) (H:IH) (M:Nat->Option (Nat×PO)):Prop where
 zlt:∀ b,Z b->b < H.size
 obj:∀ k b ob,M k=some (b,ob)->(ob.gr=true∧ob.cs=[])∨(b < H.size∧H.base<=b∧¬ Z b∧Lay P Z H M b ob)
 inj:∀ k k' b b' ob ob',M k=some (b,ob)->M k'=some (b',ob')->¬ (ob.gr=true∧ob.cs=[])->¬ (ob'.gr=true∧ob'.cs=[])->k≠k'->b≠b'
 gl:q3G Z H
def bV (M:Nat->Option (Nat×PO))(b:Nat):Prop:=∃ k ob,M k=some (b,ob)∧¬ (ob.gr=true∧ob.cs=[])
structure Step (Z:Nat->Prop) (H:IH) (M:Nat->Option (Nat×PO)) (Z':Nat->Prop) (H':IH) (M':Nat->Option (Nat×PO)):Prop where
 size:H.size<=H'.size
 base:H'.base=H.base
 zle:∀ b,Z b->Z' b
 keep:∀ b,b < H.size->¬ bV M b->H'.get b=H.get b
 zGD:∀ b,Z' b->b < H.size->Z b∨bV M b
 onew:∀ b,bV M' b->b < H.size->bV M b
theorem Step.refl (Z:Nat->Prop)(H:IH)(M:Nat->Option (Nat×PO)):Step Z H M Z H M:=⟨zM0 _,rfl,fun _ h=>h,fun _ _ _=>rfl,fun _ h _=>.inl h,fun _ h _=>h⟩
theorem Step.trans {Z Z1 Z2:Nat->Prop}{H H1 H2:IH}{M M1 M2:Nat->Option (Nat×PO)}(a:Step Z H M Z1 H1 M1)(b:Step Z1 H1 M1 Z2 H2 M2):Step Z H M Z2 H2 M2:=by
 refine⟨zNP a.size b.size,b.base.trans a.base,fun x h=>b.zle x (a.zle x h),fun x hx hn=>?_,fun x h hx=>?_,fun x h hx=>a.onew x (b.onew x h (zM4 hx a.size)) hx⟩
 ·exact (b.keep x (zM4 hx a.size) fun h=>hn (a.onew x h hx)).trans (a.keep x hx hn)
 ·rcases b.zGD x h (zM4 hx a.size) with h | h
  ·exact a.zGD x h hx
  ·exact .inr (a.onew x h hx)
theorem Hp.zGZ [Gc]{M M':Nat->Option (Nat×PO)}(h:Hp P Z H M)(s:Step Z H M Z' H' M'):∀ b,Z b->b < H.size->H'.get b=H.get b:=fun b hz hb=>s.keep b hb fun ⟨k,ob,h1,h2⟩=>by
 rcases h.obj k b ob h1 with h3 | ⟨_,_,h3,_⟩
 ·exact h2 h3
 ·exact h3 hz
end Go.Idl
namespace Go.Idl
noncomputable section
variable [Gc]
variable {P:Program}
def fvv (v:Value):PV:=.f (.v v)
def okC (v:Value):Bool:=yF v&&oneCell v
def q8G (v:Value):PV:=cond (okC v) (fvv v) .unk
def ofC:Value->PV
 | .agg cs=>cond (jZ okC cs.toList) (.agg (kP fvv cs.toList)) .unk
 | .tuple cs=>cond (jZ okC cs.toList) (.tup (kP fvv cs.toList)) .unk
 | v=>q8G v
def qJ (env:List PV):Operand->PV
 | .tmp t=>(zJ env t).getD .unk
 | .const v=>ofC v
 | .global _=>.unk
 | .func g=>fvv (.func (.func g) #[] #[])
def yL (env:List PV)(d:Option Tmp)(v:PV):List PV :=
 match d with
 | some t=>yQ env t v
 | none=>env
def pl1:PV->Option Value
 | .f (.v x)=>some x
 | _=>none
def qKD:List PV->Option (List Value)
 | []=>some []
 | x::l=>match pl1 x with
   | some v=>(match qKD l with
     | some vs=>some (v::vs)
     | none=>none)
   | none=>none
def pl:PV->Option Value
 | .f (.v x)=>some x
 | .agg cs=>(match qKD cs with
   | some vs=>some (.agg vs.toArray)
   | none=>none)
 | _=>none
def plL:List PV->Option (List Value)
 | []=>some []
 | x::l=>match pl x with
   | some v=>(match plL l with
     | some vs=>some (v::vs)
     | none=>none)
   | none=>none
def H00:IH:=⟨.nil,0,0,[]⟩
def cop (op:Op)(ty:TypeId:=0):Oper:=⟨none,op,ty, "",#[],none⟩
def q8U:Value->Bool
 | .nilIface=>true
 | _=>false
def qSH:Option zFH->Option PV
 | some (.val v _)=>some (ofC v)
 | _=>none
def qNG (P:Program)(op:Op)(ty:TypeId:=0):Option PV:=qSH (kG P (cop op ty) [] H00)
def fZ:PV->Bool
 | .agg _ | .tup _ | .bq | .unk=>false
 | _=>true
def pnt:PV->Bool
 | .tup _ | .bq | .unk=>false
 | _=>true
def zC:PV->List PV
 | .agg cs=>cs
 | v=>[v]
def yH (l:List PV)(i:Nat)(vs:List PV):List PV:=l.take i++vs++l.drop (i+vs.length)
def zR (P:Program)(t:TypeId):Option TypeId:=match P.underlying t with
 | some (.slice el)=>some el
 | _=>none
def qPV (P:Program)(t:TypeId):Option (Nat×TypeId):=match P.underlying t with
 | some (.array n el)=>some (n,el)
 | _=>none
def zB9 (P:Program)(t:TypeId)(i:Nat):Option (Nat×TypeId):=match P.underlying t with
 | some (.struct fields)=>(match fields[i]? with
   | some f=>some (f.offset,f.type)
   | none=>none)
 | _=>none
def zc (P:Program)(t:TypeId):Option (List PV):=match qCC P t with
 | some z=>cond (jZ okC z.cells.toList) (some (kP fvv z.cells.toList)) none
 | none=>none
def qXA (P:Program)(t:TypeId)(i:Nat):Option (Nat×Nat):=match P.underlying t with
 | some (.struct fields)=>(match fields[i]? with
   | some f=>(szT P f.type).map fun s=>(f.offset,s)
   | none=>none)
 | some (.array _ el)=>(szT P el).map fun s=>(i*s,s)
 | _=>none
def qBY (P:Program)(t:TypeId):Bool:=match P.underlying t with
 | some (.struct fields)=>(fields.toList.mapM (fun f=>(szT P f.type).map fun s=>(f.offset,s))).isSome
 | some (.array _ el)=>(szT P el).isSome
 | _=>false
def kK (P:Program)(el:TypeId):Bool:=match P.info? el with
 | some i=>!(Nat.ble 1000000000 el)&&(decide (i.bytes<=4096)&&(match fD P el with
   | some z=>Nat.beq z.cells.size i.size
   | none=>false))
 | none=>false
def aJ (P:Program)(t:TypeId)(cs:List PV)(off:Nat):Option PV:=match qPK P t with
 | some true=>(match szT P t with
   | some n=>cond (Nat.ble (off+n) cs.length) (some (.agg ((cs.drop off).take n))) none
   | none=>none)
 | some false=>zJ cs off
 | none=>none
def qMV (P:Program)(t:TypeId)(cs:List FV)(off:Nat):Option PV:=match qPK P t with
 | some true=>(match szT P t with
   | some n=>cond (Nat.ble (off+n) cs.length) (some (.agg (((cs.drop off).take n).map .f))) none
   | none=>none)
 | some false=>(match cs[off]? with
   | some x=>some (.f x)
   | none=>none)
 | none=>none
def fH (P:Program)(t:TypeId)(a:PV)(ph:PHp):Option PV:=match a with
 | .ref k tt off=>(match qA k ph with
   | some ob=>cond (spec P ob.el) none (cond (Nat.beq tt ob.cs.length) (aJ P t ob.cs off) none)
   | none=>none)
 | .lp cs off=>qMV P t cs off
 | _=>none
def jB (P:Program)(t:TypeId)(a x:PV)(ph:PHp):Option PHp:=match a with
 | .ref k tt off=>(match qA k ph with
   | some ob=>(match szT P t with
     | some n=>cond (spec P ob.el) none (cond (Nat.beq tt ob.cs.length&&(Nat.beq n (zC x).length&&(Nat.ble (off+n) ob.cs.length&&(pnt x&&(zC x).all fZ)))) (some (xL k { ob with cs:=yH ob.cs off (zC x) } ph)) none)
     | none=>none)
   | none=>none)
 | _=>none
def qJF (place:Nat->Option (Nat×Nat)):List PV->List (Nat×PV)->Option (List PV)
 | cells,[]=>some cells
 | cells,(i,v)::rest=>match place i with
   | some (off,size)=>cond (Nat.beq (zC v).length size&&(Nat.ble (off+size) cells.length&&(pnt v&&(zC v).all fZ))) (qJF place (yH cells off (zC v)) rest) none
   | none=>none
def qH6 (P:Program)(t:TypeId)(parts:List (Nat×PV)):Option PV:=match zc P t with
 | some z=>cond (qBY P t) (match qJF (qXA P t) z parts with
   | some cs=>some (.agg cs)
   | none=>none) none
 | none=>none
def qHP (n:Nat)(z:List PV):List PV:=(List.replicate n z).flatten
def qCP (k:Nat)(ob:PO)(v:PV)(ph:PHp):Option (PV×PHp):=some (v,(k,ob)::ph)
def z8 (P:Program)(t:TypeId)(len:Nat)(parts:List (Nat×PV))(k:Nat)(ph:PHp):Option (PV×PHp):=match zR P t with
 | some el=>(match szT P el,zc P el with
   | some (s+1),some z=>cond (Nat.beq z.length (s+1)&&Nat.ble (len*(s+1)) 65536) (match qJF (fun i=>some (i*(s+1),s+1)) (qHP len z) parts with
     | some cs=>qCP k ⟨el,false,cs⟩ (.own k len 0 len) ph
     | none=>none) none
   | _,_=>none)
 | none=>none
def mkN (n:Int):Option Nat:=if 0<=n∧n<=65536 then some n.toNat else none
def y8 (P:Program)(t:TypeId)(l c:PV)(k:Nat)(ph:PHp):Option (PV×PHp):=match zR P t,l,c with
 | some el,.f (.v (.int _ n)),.f (.v (.int _ m))=>cond (decide (n=m)) (match mkN n,szT P el,zc P el with
   | some n,some (s+1),some z=>cond (kK P el&&Nat.beq z.length (s+1)) (qCP k ⟨el,false,qHP n z⟩ (.own k n 0 n) ph) none
   | _,_,_=>none) none
 | _,_,_=>none
def dQ (P:Program)(el:TypeId)(k:Nat)(ph:PHp):Option (PV×PHp):=match zc P el with
 | some z=>cond (spec P el) none (qCP k ⟨el,false,z⟩ (.ref k z.length 0) ph)
 | none=>none
def q2P (P:Program)(el:TypeId)(v:PV)(k:Nat)(ph:PHp):Option (PV×PHp) :=
 cond (!(spec P el)&&(pnt v&&(zC v).all fZ)) (qCP k ⟨el,false,zC v⟩ (.ref k (zC v).length 0) ph) none
def live? (k t:Nat)(ph:PHp):Bool:=match qA k ph with
 | some ob=>Nat.beq t ob.cs.length
 | none=>false
def yO (v:PV)(ph:PHp):Option PV:=match v with
 | .ref k t off=>cond (live? k t ph) (some v) none
 | .lp cs off=>some v
 | .fn _ _ _=>some v
 | .f (.v (.func (.func g) a c))=>some v
 | _=>none
def vE (fn:Fn)(first cap:List PV):Option PV:=match fn with
 | .func g=>some (match first,cap with
   | [],[]=>fvv (.func (.func g) #[] #[])
   | _,_=>.fn g first cap)
 | _=>none
def bnd (d most:Nat):Option PV->Option Nat
 | none=>some d
 | some (.f (.v (.int _ i)))=>if 0<=i∧i<=(most:Int) then some i.toNat else none
 | some _=>none
def wP (P:Program)(t:TypeId)(x:PV)(lo hi:Option PV)(ph:PHp):Option PV:=match x with
 | .f (.l el n cs)=>(match zR P t,szT P el,bnd n n hi with
   | some el',some s,some h=>(match bnd 0 h lo with
     | some l=>cond (Nat.beq el' el&&Nat.beq (n*s) cs.length) (some (.f (cond (Nat.beq l h) (.l el 0 []) (.l el (h - l) ((cs.drop (l*s)).take ((h - l)*s)))))) none
     | none=>none)
   | _,_,_=>none)
 | .f (.v (.slice none 0 0))=>(match zR P t,bnd 0 0 hi,bnd 0 0 lo with
   | some el,some _,some _=>cond ((szT P el).isSome) (some x) none
   | _,_,_=>none)
 | .own k tt o n=>(match qA k ph with
   | some ob=>(match zR P t,szT P ob.el,bnd n n hi with
     | some el',some s,some h=>(match bnd 0 h lo with
       | some l=>cond (Nat.beq el' ob.el&&Nat.beq (tt*s) ob.cs.length) (some (cond (Nat.beq l 0) (.own k tt o h) (cond (Nat.beq l h) (.f (.l ob.el 0 [])) (.own k tt (o+l) (h - l))))) none
       | none=>none)
     | _,_,_=>none)
   | none=>none)
 | .ref k tt 0=>(match qA k ph with
   | some ob=>(match qPV P t with
     | some (m,el)=>(match szT P el,bnd m m hi with
       | some (s+1),some h=>(match bnd 0 h lo with
         | some l=>cond (Nat.beq el ob.el&&(Nat.beq tt ob.cs.length&&(Nat.beq (m*(s+1)) tt&&!ob.gr))) (some (cond (Nat.beq l 0) (.own k m 0 h) (cond (Nat.beq l h) (.f (.l el 0 [])) (.own k m l (h - l)))))
            (cond (Nat.beq tt ob.cs.length&&(Nat.beq m tt&&(Nat.beq s 0&&(!ob.gr&&(Nat.beq l 0&&Nat.beq h m))))) (some (.asl el k m)) none)
         | none=>none)
       | _,_=>none)
     | none=>none)
   | none=>none)
 | _=>none
def zX (P:Program)(t:TypeId)(x:PV)(i:Nat)(ph:PHp):Option PV:=match zB9 P t i with
 | some (off,ft)=>(match szT P ft with
   | some (_+1)=>(match x with
     | .ref k tt o=>cond (live? k tt ph) (some (.ref k tt (o+off))) none
     | .lp cs o=>some (.lp cs (o+off))
     | _=>none)
   | _=>none)
 | none=>none
def idx (n:Nat)(i:Int):Option Nat:=if 0<=i∧i < (n:Int) then some i.toNat else none
def qZ (P:Program)(t:TypeId)(x ix:PV)(ph:PHp):Option PV:=match ix with
 | .f (.v (.int _ i))=>(match x with
   | .f (.l el n cs)=>(match zR P t with
     | some el'=>(match szT P el' with
       | some s=>(match idx n i with
         | some j=>some (.lp cs (j*s))
         | none=>none)
       | none=>none)
     | none=>none)
   | .own k tt o n=>(match zR P t,qA k ph with
     | some el',some ob=>(match szT P ob.el with
       | some s=>(match idx n i with
         | some j=>cond (Nat.beq el' ob.el&&Nat.beq (tt*s) ob.cs.length) (some (.ref k ob.cs.length ((o+j)*s))) none
         | none=>none)
       | none=>none)
     | _,_=>none)
   | .ref k tt off=>(match qPV P t with
     | some (n,el)=>(match szT P el,idx n i with
       | some s,some j=>cond (live? k tt ph) (some (.ref k tt (off+j*s))) none
       | _,_=>none)
     | none=>none)
   | .lp cs off=>(match qPV P t with
     | some (n,el)=>(match szT P el,idx n i with
       | some s,some j=>some (.lp cs (off+j*s))
       | _,_=>none)
     | none=>none)
   | _=>none)
 | _=>none
def qD3 (P:Program)(t:TypeId)(x ix:PV):Option PV:=match qPV P t,x,ix with
 | some (n,el),.agg cs,.f (.v (.int _ i))=>(match szT P el,idx n i with
   | some s,some j=>aJ P el cs (j*s)
   | _,_=>none)
 | _,_,_=>none
def cB (v:PV)(i:Nat):Option PV:=match v with
 | .tup cs=>(match zJ cs i with
   | some x=>cond (pnt x) (some x) none
   | none=>none)
 | _=>none
def pp1 (ph:PHp):Option PV->Option (PV×PHp)
 | some v=>some (v,ph)
 | none=>none
def ppS:Option PHp->Option (PV×PHp)
 | some ph=>some (.tup [],ph)
 | none=>none
def isNil (v:PV)(ph:PHp):Option Bool:=match v with
 | .f (.v (.slice none _ _))=>some true
 | .f (.l _ (_+1) (_::_))=>some false
 | .own k t _ _=>(match qA k ph with
   | some ob=>(match szT P ob.el with
     | some s=>cond (Nat.beq (t*s) ob.cs.length) (some (ob.gr&&Nat.beq t 0)) none
     | none=>none)
   | none=>none)
 | _=>none
def qP8 (v:PV):Option Bool:=match v with
 | .f (.v .nilFunc)=>some true
 | .f (.v (.func _ _ _))=>some false
 | .fn _ _ _=>some false
 | _=>none
def qUE (P:Program)(t:TypeId):Bool:=match P.underlying t with
 | some (.func _ _ _)=>true
 | _=>false
def qEB (P:Program)(t:TypeId)(a b:PV)(ph:PHp):Option Bool:=match b with
 | .f (.v (.slice none _ _))=>cond (zR P t).isSome (isNil (P:=P) a ph) none
 | .f (.v .nilFunc)=>cond (qUE P t) (qP8 a) none
 | _=>none
def qQ1 (P:Program)(t:TypeId)(a b:PV):Option PV:=match a,b with
 | .f (.l _ 0 []),.f (.v (.slice none _ _))=>cond (zR P t).isSome (some .bq) none
 | _,_=>none
def uN (P:Program)(t:TypeId)(a b:PV)(ph:PHp)(f:Bool->PV):Option PV:=match qEB P t a b ph with
 | some b=>some (f b)
 | none=>qQ1 P t a b
def jP (P:Program)(op:BinOp)(t t2:TypeId)(x y:PV)(ph:PHp):Option PV:=match pl x,pl y with
 | some a,some b=>cond (q8U a) none (qSH (yS P (cop (.binOp op t (.const a) (.const b) t2)) op t a b [] H00))
 | _,_=>(match op with
   | .eql=>uN P t x y ph fun b=>fvv (.bool b)
   | .neq=>uN P t x y ph fun b=>fvv (.bool !b)
   | _=>none)
def aY (P:Program)(mk:Operand->Op)(x:PV)(ty:TypeId:=0):Option PV:=match pl x with
 | some a=>qNG P (mk (.const a)) ty
 | none=>none
def q1H (P:Program)(ts:Array TypeId)(x:PV)(ph:PHp):Option PV:=match ts[0]? with
 | some t=>(match zR P t with
   | some _=>(match x with
     | .f (.l _ n _)=>some (fvv (.int .i64 (n:Int)))
     | .f (.v (.slice _ n _))=>some (fvv (.int .i64 (n:Int)))
     | .own k tt _ n=>(match qA k ph with
       | some ob=>(match szT P ob.el with
         | some s=>cond (Nat.beq (tt*s) ob.cs.length) (some (fvv (.int .i64 (n:Int)))) none
         | none=>none)
       | none=>none)
     | _=>none)
   | none=>(match qPV P t with
     | some (n,_)=>some (fvv (.int .i64 (n:Int)))
     | none=>none))
 | none=>none
def mO (P:Program)(s:Nat)(x:PV)(ph:PHp):Option (Nat×List PV):=match x with
 | .f (.l _ n cs)=>cond (Nat.beq (n*s) cs.length) (some (n,cs.map .f)) none
 | .f (.v (.slice none 0 _))=>some (0,[])
 | .own k tt o n=>(match qA k ph with
   | some ob=>(match szT P ob.el with
     | some s'=>cond (Nat.beq (tt*s') ob.cs.length&&Nat.beq s s') (some (n,(ob.cs.drop (o*s)).take (n*s))) none
     | none=>none)
   | none=>none)
 | _=>none
def oG (P:Program)(el:TypeId)(s:Nat)(old:List PV)(n:Nat)(new:List PV)(m:Nat)(k:Nat)(ph:PHp):Option (PV×PHp) :=
 cond (Nat.ble (n+m) 1048576&&(kK P el&&(Nat.beq (old.length) (n*s)&&(Nat.beq new.length (m*s)&&new.all fZ)))) (qCP k ⟨el,true,old++new⟩ (.own k (n+m) 0 (n+m)) ph) none
def zW (P:Program)(ts:List TypeId)(base x:PV)(k:Nat)(ph:PHp):Option (PV×PHp):=match ts with
 | [st,xt]=>(match zR P st,zR P xt with
   | some el,some _=>(match szT P el with
     | some (s+1)=>(match mO P (s+1) x ph with
       | some (m,new)=>(match base with
         | .f (.v (.slice none 0 0))=>cond (Nat.beq m 0) (some (base,ph)) (oG P el (s+1) [] 0 new m k ph)
         | .own j tt o n=>(match qA j ph with
           | some ob=>cond (Nat.beq ob.el el&&(Nat.beq (tt*(s+1)) ob.cs.length&&Nat.beq o 0))
              (cond (Nat.beq m 0) (some (base,ph))
                (cond (Nat.ble (n+m) tt) (cond (Nat.beq new.length (m*(s+1))&&new.all fZ) (some (.own j tt 0 (n+m),xL j { ob with cs:=yH ob.cs (n*(s+1)) new } ph)) none)
                  (cond (Nat.beq n tt) (cond ob.gr (oG P el (s+1) ob.cs n new m j (nN j ph)) (oG P el (s+1) ob.cs n new m k ph)) none))) none
           | none=>none)
         | _=>none)
       | none=>none)
     | _=>none)
   | _,_=>none)
 | _=>none
def qFP (P:Program)(ts:List TypeId)(base x:PV)(ph:PHp):Option (PV×PHp):=match ts with
 | [st,xt]=>(match zR P st,zR P xt with
   | some el,some _=>(match szT P el with
     | some (s+1)=>(match mO P (s+1) x ph with
       | some (m,new)=>(match base with
         | .own j tt o n=>(match qA j ph with
           | some ob=>cond (Nat.beq ob.el el&&(Nat.beq (tt*(s+1)) ob.cs.length&&(Nat.beq new.length (m*(s+1))&&new.all fZ)))
              (some (fvv (.int .i64 ((Nat.min m n:Nat):Int)),xL j { ob with cs:=yH ob.cs (o*(s+1)) (new.take (Nat.min m n*(s+1))) } ph)) none
           | none=>none)
         | .f (.l _ 0 [])=>some (fvv (.int .i64 0),ph)
         | .f (.v (.slice none 0 _))=>some (fvv (.int .i64 0),ph)
         | _=>none)
       | none=>none)
     | _=>none)
   | _,_=>none)
 | _=>none
def needs:Op->Bool
 | .alloc _ | .box _ _ | .buildSlice _ _ _ | .makeSlice _ _ _ | .makeMap _ _ | .range _ _=>true
 | .call c=>match c.callee with
   | .builtin .append=>true
   | _=>false
 | _=>false
def qYX (P:Program)(ts:Array TypeId):Bool:=match (ts[0]?).bind P.underlying with
 | some .string=>true
 | _=>false
def qSB:PV->Bool
 | .f (.v (.pointer _))=>true
 | _=>false
def erV (x:PV):Value:=(pl x).getD undef
def qRO (env:List PV):Env:=kP erV env
def vR (P:Program)(b:Builtin)(c:Call)(args:List PV)(env:List PV)(ty:TypeId)(ph:PHp):Option (PV×PHp):=match plL args with
 | some _=>pp1 ph (qSH (kG P (cop (.call c) ty) (qRO env) H00))
 | none=>none
def rT (P:Program)(m:PV)(ph:PHp):Option (List PV):=match m with
 | .mp k=>(match qA k ph with
   | some ob=>cond (!ob.gr&&(spec P ob.el&&Nat.beq ob.el 1000000001)) (some ob.cs) none
   | none=>none)
 | _=>none
def zBG (P:Program)(ts:Array TypeId):Bool:=match (ts[0]?).bind P.underlying with
 | some (.map _ _)=>true
 | _=>false
def qC3 (P:Program)(ts:Array TypeId)(x:PV)(ph:PHp):Option PV:=match rT P x ph with
 | some cs=>cond (zBG P ts) (some (fvv (.int .i64 ((cs.length / 3:Nat):Int)))) none
 | none=>q1H P ts x ph
def wS (P:Program)(b:Builtin)(c:Call)(args:List PV)(env:List PV)(ty:TypeId)(k:Nat)(ph:PHp):Option (PV×PHp):=match b with
 | .append=>(match args with
   | [x,y]=>zW P c.argTypes.toList x y k ph
   | _=>none)
 | .copy=>(match args with
   | [x,y]=>qFP P c.argTypes.toList x y ph
   | _=>none)
 | .len=>(match args with
   | [x]=>cond (qYX P c.argTypes) (vR P b c args env ty ph) (pp1 ph (qC3 P c.argTypes x ph))
   | _=>none)
 | .min=>vR P b c args env ty ph
 | .max=>vR P b c args env ty ph
 | _=>none
def qJN:List PV->Option (List MapEntry)
 | []=>some []
 | .f (.v k)::.f (.v v)::.f (.v (.int .i64 b))::l=>match qJN l with
   | some es=>some (⟨k,v,b.toNat⟩::es)
   | none=>none
 | _=>none
def mapOf:List PV->Option (Nat×List MapEntry)
 | .f (.v (.int .i64 c))::l=>match qJN l with
   | some es=>some (c.toNat,es)
   | none=>none
 | _=>none
def wQ (c:Nat)(es:List MapEntry):List PV:=.f (.v (.int .i64 c))::qDK es
def rO (P:Program)(m:PV)(ph:PHp):Option (Nat×PO×Nat×List MapEntry):=match m with
 | .mp k=>(match qA k ph with
   | some ob=>cond (spec P ob.el&&Nat.beq ob.el 1000000001) (match mapOf ob.cs with
     | some (c,es)=>some (k,ob,c,es)
     | none=>none) none
   | none=>none)
 | _=>none
def q3W (ok:Bool)(v:Value)(b:Bool):PV:=cond ok (.tup [ofC v,fvv (.bool b)]) (ofC v)
def uL (P:Program)(t:TypeId)(m kx:PV)(ok:Bool)(ph:PHp):Option PV:=match P.underlying t,rO P m ph,pl kx with
 | some (.map kt et),some (_,_,_,es),some kv=>(match mP P kt kv es with
   | some (some i)=>(match es[i]? with
     | some e=>some (q3W ok e.val true)
     | none=>none)
   | some none=>(match fD P et with
     | some z=>cond (yF z) (some (q3W ok z false)) none
     | none=>none)
   | none=>none)
 | _,_,_=>none
def jE (P:Program)(t:TypeId)(m kx x:PV)(ph:PHp):Option PHp:=match P.underlying t,rO P m ph,pl kx,pl x with
 | some (.map kt _),some (k,ob,c,es),some kv,some xv=>cond (zI xv) (match mP P kt kv es with
   | some (some i)=>(match es[i]? with
     | some e=>cond (Instr.sameBits 10000 e.key kv) (some (xL k { ob with cs:=wQ c (es.modify i fun e=>{ e with key:=kv,val:=xv }) } ph)) none
     | none=>none)
   | some none=>some (xL k { ob with cs:=wQ (c+1) (es++[⟨kv,xv,c⟩]) } ph)
   | none=>none) none
 | _,_,_,_=>none
def dH (P:Program)(k:Nat)(ph:PHp):Option (PV×PHp):=cond (spec P 1000000001) (qCP k ⟨1000000001,false,wQ 0 []⟩ (.mp k) ph) none
def aD (s:ByteArray)(pos:Nat):List PV:=[.f (.v (.string s)),.f (.v (.int .i64 pos))]
def rR (P:Program)(t:TypeId)(x:PV)(k:Nat)(ph:PHp):Option (PV×PHp):=match P.underlying t,pl x with
 | some .string,some (.string s)=>cond (spec P 1000000000) (qCP k ⟨1000000000,false,aD s 0⟩ (.ref k 2 0) ph) none
 | some (.map _ _),_=>(match rO P x ph with
   | some (j,_,c,_)=>cond (spec P 1000000002&&!(j==k)) (qCP k ⟨1000000002,false,qC8 x c 0 []⟩ (.ref k 4 0) ph) none
   | none=>none)
 | _,_=>none
def qKW (P:Program)(x:PV)(ph:PHp):Option (PV×PHp):=match x with
 | .ref k tt off=>(match qA k ph with
   | some ob=>cond (spec P ob.el&&(Nat.beq ob.el 1000000000&&(Nat.beq tt 2&&Nat.beq off 0))) (match ob.cs with
     | [.f (.v (.string s)),.f (.v (.int .i64 pos))]=>cond (decide (pos.toNat < s.size))
         (some (.tup [fvv (.bool true),fvv (.int .i64 pos.toNat),fvv (.int .i32 (Utf8.decode s pos.toNat).1)],xL k { ob with cs:=aD s (pos.toNat+(Utf8.decode s pos.toNat).2) } ph))
         (some (.tup [fvv (.bool false)],ph))
     | _=>none) none
   | none=>none)
 | _=>none
def sS (P:Program)(o:Oper)(env:List PV)(k:Nat)(ph:PHp):Option (PV×PHp) :=
 match o.op with
 | .move x=>some (qJ env x,ph)
 | .assign x=>some (qJ env x,ph)
 | .pick c a b=>(match qJ env c with
   | .f (.v (.bool t))=>some (cond t (qJ env a) (qJ env b),ph)
   | _=>none)
 | .alloc el=>dQ P el k ph
 | .box el x=>q2P P el (qJ env x) k ph
 | .build t parts=>pp1 ph (qH6 P t (parts.toList.map fun p=>(p.1,qJ env p.2)))
 | .buildSlice t len parts=>z8 P t len (parts.toList.map fun p=>(p.1,qJ env p.2)) k ph
 | .load t a=>pp1 ph (fH P t (qJ env a) ph)
 | .store t a x=>ppS (jB P t (qJ env a) (qJ env x) ph)
 | .nilCheck x=>pp1 ph (yO (qJ env x) ph)
 | .binOp op t x y t2=>pp1 ph (jP P op t t2 (qJ env x) (qJ env y) ph)
 | .unOp op t x=>pp1 ph (aY P (fun a=>.unOp op t a) (qJ env x))
 | .convert s d x=>cond (qSB (qJ env x)) none (pp1 ph (aY P (fun a=>.convert s d a) (qJ env x)))
 | .makeFunc fn first cap=>pp1 ph (vE fn (first.toList.map (qJ env)) (cap.toList.map (qJ env)))
 | .makeSlice t l c=>y8 P t (qJ env l) (qJ env c) k ph
 | .slice t x lo hi none=>(match qJ env x with
   | .f (.v (.string s))=>(match plL ((lo.toList++hi.toList).map (qJ env)) with
     | some _=>pp1 ph (qNG P (.slice t (.const (.string s)) (lo.map fun a=>.const ((pl (qJ env a)).getD undef)) (hi.map fun a=>.const ((pl (qJ env a)).getD undef)) none))
     | none=>none)
   | v=>pp1 ph (wP P t v (lo.map (qJ env)) (hi.map (qJ env)) ph))
 | .fieldAddr t x i=>pp1 ph (zX P t (qJ env x) i ph)
 | .indexAddr t x ix=>pp1 ph (qZ P t (qJ env x) (qJ env ix) ph)
 | .index t x ix=>(match qJ env x,pl (qJ env ix) with
   | .f (.v (.string s)),some j=>pp1 ph (qNG P (.index t (.const (.string s)) (.const j)))
   | v,_=>pp1 ph (qD3 P t v (qJ env ix)))
 | .extract t i=>pp1 ph (cB (qJ env t) i)
 | .makeMap _ none=>dH P k ph
 | .lookup t m kx ok=>pp1 ph (uL P t (qJ env m) (qJ env kx) ok ph)
 | .mapUpdate t m kx x=>ppS (jE P t (qJ env m) (qJ env kx) (qJ env x) ph)
 | .range t x=>rR P t (qJ env x) k ph
 | .next it true=>qKW P (qJ env it) ph
 | .call c=>(match c.callee with
   | .builtin b=>wS P b c (c.args.toList.map (qJ env)) env o.type k ph
   | _=>none)
 | _=>none
def q99 (P:Program)(o:Oper)(env:List PV)(k:Nat)(ph:PHp):Option (PV×PHp):=sS P o env k ph
theorem qWU {P:Program}{o:Oper}{env:List PV}{k:Nat}{ph:PHp}{r:PV×PHp}(h:sS P o env k ph=some r):q99 P o env k ph=some r:=h
end
end Go.Idl
namespace Go.Idl
variable [Gc]
variable {P:Program}{Z:Nat->Prop}{H:IH}{M:Nat->Option (Nat×PO)}
variable {a v:Value}{b i k:Nat}{m:Nat->Nat}{ob:PO}{ph:PHp}{vs ws:List Value}{x:PV}{xs ys:List PV}
theorem cells_one (h:oneCell v=true):v.cells=#[v]:=by
 cases v <;> first | rfl | (cases h)
theorem q85 (h:oneCell v=true):zI v=true:=by
 cases v <;> first | rfl | (cases h)
theorem VR.one {x:PV}{v:Value}(h:VR P Z H M x v)(hp:fZ x=true):oneCell v=true:=by
 cases h with
 | f h=>exact h.one
 | agg=>cases hp
 | tup=>cases hp
 | own h1=>exact h1
 | ref h1=>exact h1
 | lp=>rfl
 | fn=>rfl
 | yl=>rfl
 | bq=>cases hp
 | unk=>cases hp
 | mp h1=>exact h1
 | asl h1=>exact h1
theorem VR.cells {x:PV}{v:Value}(h:VR P Z H M x v)(hp:pnt x=true):VRL P Z H M (zC x) v.cells.toList∧zI v=true:=by
 have one:fZ x=true->zC x=[x]->VRL P Z H M (zC x) v.cells.toList∧zI v=true:=fun h1 h2=>by
  have:=h.one h1;rw[cells_one this,h2];exact⟨.cons h .nil,q85 this⟩
 cases x with
 | f=>exact one rfl rfl
 | agg cs =>
   cases h with
   | agg hl hc=>exact⟨⟨by simpa [Value.cells,zC] using hl,fun i x v h1 h2=>hc i x v h1 (by simpa [Value.cells] using h2)⟩,rfl⟩
 | tup=>cases hp
 | own=>exact one rfl rfl
 | ref=>exact one rfl rfl
 | lp=>exact one rfl rfl
 | fn=>exact one rfl rfl
 | yl=>exact one rfl rfl
 | bq=>cases hp
 | unk=>cases hp
 | mp=>exact one rfl rfl
 | asl=>exact one rfl rfl
theorem VRL.one:∀ {xs:List PV} {vs:List Value},VRL P Z H M xs vs->xs.all fZ=true->vs.all oneCell=true
 | [],_,h,_=>by rw[h.zFF];rfl
 | x::xs,_,h,hp=>by
   obtain⟨v,vs,rfl,h1,h2⟩:=h.zFD;simp only[zOD,zMY] at hp ⊢;exact⟨h1.one hp.1,VRL.one h2 hp.2⟩
theorem VRL.over (a:VRL P Z H M xs vs)(b:VRL P Z H M ys ws)(i:Nat):VRL P Z H M (yH xs i ys) (overwrite vs i ws):=by
 unfold yH overwrite;rw[<-b.len];exact ((a.take i).append b).append (a.drop _)
theorem cZ (h:i+ys.length<=xs.length):(yH xs i ys).length=xs.length:=by
 unfold yH;simp;omega
theorem tT (a:vs.all oneCell=true)(b:ws.all oneCell=true):(overwrite vs i ws).all oneCell=true:=by
 unfold overwrite;rw[zQO,zQO,b,zO9,zMY];rw[zM1] at a;exact⟨zM1.2 fun x hx=>a x (zP1 hx),zM1.2 fun x hx=>a x (zP2 hx)⟩
theorem VRL.of_map {f:Value->PV}(hf:∀ v,okC v=true->VR P Z H M (f v) v):∀ {vs:List Value},jZ okC vs=true->VRL P Z H M (kP f vs) vs
 | [],_=>.nil
 | v::vs,h=>by
   rw[vD,zMY] at h;exact .cons (hf v h.1) (VRL.of_map hf h.2)
theorem kE (h:okC v=true):VR P Z H M (fvv v) v:=by
 unfold okC at h;rw[zMY] at h;exact .f (.v h.1 h.2)
theorem qX8:∀ {vs:List Value},jZ okC vs=true->vs.all oneCell=true
 | [],_=>rfl
 | v::vs,h=>by
   rw[vD,zMY] at h;unfold okC at h;simp only[zMY] at h;simp only[zOD,zMY];exact⟨h.1.2,qX8 h.2⟩
theorem qBK (v:Value):VR P Z H M (ofC v) v:=by
 have c1:VR P Z H M (q8G v) v:=by
  unfold q8G
  cases h:okC v with
  | true=>exact kE h
  | false=>exact .unk
 unfold ofC;split
 ·rename_i cs
  cases h:jZ okC cs.toList with
  | true =>
    have:=VRL.of_map (P:=P) (Z:=Z) (H:=H) (M:=M) (f:=fvv) (fun v h=>kE h) h;exact .agg (by simpa using this.len) fun i x v h1 h2=>this.val i x v h1 (by simpa using h2)
  | false=>exact .unk
 ·rename_i cs
  cases h:jZ okC cs.toList with
  | true =>
    have:=VRL.of_map (P:=P) (Z:=Z) (H:=H) (M:=M) (f:=fvv) (fun v h=>kE h) h;exact .tup (by simpa using this.len) fun i x v h1 h2=>this.val i x v h1 (by simpa using h2)
  | false=>exact .unk
 ·exact c1
theorem qK {env:List PV}{zFA:Env}(h:VRL P Z H M env zFA)(x:Operand):VR P Z H M (qJ env x) (zFA.val x):=by
 cases x with
 | tmp t =>
   unfold qJ Env.val;simp only[qG]
   cases he:env[t]? with
   | none=>exact .unk
   | some y =>
     obtain⟨v,h1,h2⟩:=h.get he;rw[h1];exact h2
 | const v=>exact qBK v
 | global g=>exact .unk
 | func g=>exact kE rfl
theorem zBU (h:VR P Z H M x v)(hp:pl1 x=some a):v=a:=by
 unfold pl1 at hp;split at hp
 ·cases hp
  cases h with
  | f h=>cases h;rfl
 ·cases hp
theorem qXZ:∀ {xs:List PV} {vs as:List Value},VRL P Z H M xs vs->qKD xs=some as->vs=as
 | [],_,_,h,hp=>by
   rw[h.zFF];simp only[qKD,zM7] at hp;exact hp
 | x::xs,_,_,h,hp=>by
   obtain⟨v,vs,rfl,h1,h2⟩:=h.zFD;unfold qKD at hp;split at hp
   ·rename_i a ha;split at hp
    ·rename_i as' has;cases hp;rw[zBU h1 ha,qXZ h2 has]
    ·cases hp
   ·cases hp
theorem yK (h:VR P Z H M x v)(hp:pl x=some a):v=a:=by
 unfold pl at hp;split at hp
 ·cases hp
  cases h with
  | f h=>cases h;rfl
 ·rename_i cs;split at hp
  ·rename_i vs hvs;cases hp
   cases h with
   | agg hl hc =>
     rename_i ws
     have:VRL P Z H M cs ws.toList:=⟨by simpa using hl,fun i x v h1 h2=>hc i x v h1 (by simpa using h2)⟩
     have:=qXZ this hvs;rw[<-this]
  ·cases hp
 ·cases hp
theorem qIA:∀ {xs:List PV} {vs as:List Value},VRL P Z H M xs vs->plL xs=some as->vs=as
 | [],_,_,h,hp=>by
   rw[h.zFF];simp only[plL,zM7] at hp;exact hp
 | x::xs,_,_,h,hp=>by
   obtain⟨v,vs,rfl,h1,h2⟩:=h.zFD;unfold plL at hp;split at hp
   ·rename_i a ha;split at hp
    ·rename_i as' has;cases hp;rw[yK h1 ha,qIA h2 has]
    ·cases hp
   ·cases hp
def own (m:Nat->Nat)(ph:PHp):Nat->Option (Nat×PO):=fun k=>(qA k ph).map fun ob=>(m k,ob)
theorem qM (h:qA k ph=some ob):own m ph k=some (m k,ob):=by unfold own;rw[h];rfl
theorem vL (h:own m ph k=some (b,ob)):qA k ph=some ob∧b=m k:=by
 unfold own at h
 cases hl:qA k ph with
 | none=>rw[hl] at h;cases h
 | some o=>rw[hl] at h;cases h;exact⟨rfl,rfl⟩
theorem zA {k j:Nat}{o:PO}:∀ {ph:PHp},qA k (xL j o ph)=if k=j∧(qA j ph).isSome=true then some o else qA k ph
 | []=>by simp[xL,qA]
 | (i,p)::l=>by
   have ih:=zA (k:=k) (j:=j) (o:=o) (ph:=l);unfold xL;by_cases h:j=i
   ·subst h;simp only[beq_self_eq_true,cond_true,qA,zQP,and_true];by_cases hk:k=j
    ·subst hk;simp
    ·have:(k==j)=false:=by simpa using hk
     simp[this,hk]
   ·have hj:(j==i)=false:=by simpa using h
    simp only[hj,cond_false,qA];by_cases hk:k=i
    ·subst hk;have:¬ (k=j):=fun e=>h e.symm
     simp[this]
    ·have hk':(k==i)=false:=by simpa using hk
     simp only[hk',cond_false];exact ih
theorem yZ {k j:Nat}:∀ {ph:PHp},qA k (nN j ph)=if k=j then none else qA k ph
 | []=>by simp[nN,qA]
 | (i,p)::l=>by
   have ih:=yZ (k:=k) (j:=j) (ph:=l);unfold nN;by_cases h:j=i
   ·subst h;simp only[beq_self_eq_true,cond_true,qA];rw[ih];by_cases hk:k=j
    ·simp[hk]
    ·have:(k==j)=false:=by simpa using hk
     simp[hk,this]
   ·have hj:(j==i)=false:=by simpa using h
    simp only[hj,cond_false,qA];by_cases hk:k=i
    ·subst hk;have:¬ (k=j):=fun e=>h e.symm
     simp[this]
    ·have hk':(k==i)=false:=by simpa using hk
     simp only[hk',cond_false];exact ih
def gZ (k:Nat):PHp->Bool
 | []=>true
 | (_,o)::l=>zZ k o.cs&&gZ k l
theorem jX {k:Nat}:∀ {ph:PHp} {j:Nat} {ob:PO},gZ k ph=true->qA j ph=some ob->zZ k ob.cs=true
 | (i,p)::l,j,ob,h,e=>by
   simp only[gZ,zMY] at h;unfold qA at e
   cases hj:(j==i) with
   | true=>rw[hj] at e;cases e;exact h.1
   | false=>rw[hj] at e;exact jX h.2 e
structure Res (P:Program) (Z:Nat->Prop) (H:IH) (m:Nat->Nat) (ph:PHp) (p:Nat->Bool) (v:PV) (ph':PHp) (s:Option zFH):Prop where
 ex:∃ u H' Z' m',s=some (.val u H')∧Hp P Z' H' (own m' ph')∧VR P Z' H' (own m' ph') v u∧Step Z H (own m ph) Z' H' (own m' ph')∧KR p (own m ph) (own m' ph')
theorem Res.same {p:Nat->Bool}{v:PV}{u:Value}{s:Option zFH}(hs:s=some (.val u H))(hp:Hp P Z H (own m ph))(hv:VR P Z H (own m ph) v u):Res P Z H m ph p v ph s :=
 ⟨u,H,Z,m,hs,hp,hv,.refl _ _ _,.refl _ _⟩
def real (ob:PO):Prop:=¬ (ob.gr=true∧ob.cs=[])
theorem Hp.zJQ {p:Nat->Bool}{ph0:PHp}(hp:Hp P Z H (own m ph)){H1:IH}(hs1:H1.size=H.size)(hb1:H1.base=H.base)
 (hg1:∀ b,b < H.size->(∀ ob0,qA k ph=some ob0->real ob0->b≠m k)->H1.get b=H.get b)
 (hsp:spec P ob.el=false) (hk1:p k=true∨∃ ob0,qA k ph=some ob0∧ob0.cs.length < ob.cs.length∧ob0.el=ob.el∧Nat.ble 1000000000 ob.el=false) (hn:∀ j,p j=true->j=k∧gZ k ph=true∧zZ k ob.cs=true) (hr:VRL P Z H (own m ph) ob.cs vs) (h1:vs.all oneCell=true) (hb:H.base<=H.size)
 (h0:∀ j,j≠k->qA j ph0=qA j ph) :
 Hp P Z (H1.push (.cells vs.toArray ob.el (cond ob.gr zN (0,0)))) (own (fun j=>if j=k then H.size else m j) ((k,ob)::ph0)) ∧
  Step Z H (own m ph) Z (H1.push (.cells vs.toArray ob.el (cond ob.gr zN (0,0)))) (own (fun j=>if j=k then H.size else m j) ((k,ob)::ph0))∧KR p (own m ph) (own (fun j=>if j=k then H.size else m j) ((k,ob)::ph0)):=by
 have hold:∀ j,j≠k->own (fun j=>if j=k then H.size else m j) ((k,ob)::ph0) j=own m ph j:=fun j hj=>by
  have:(j==k)=false:=by simpa using hj
  have e:qA j ((k,ob)::ph0)=qA j ph:=by
   show cond (j==k) (some ob) (qA j ph0)=_;rw[this];exact h0 j hj
  unfold own;rw[e];simp only[if_neg hj]
 have hnew:own (fun j=>if j=k then H.size else m j) ((k,ob)::ph0) k=some (H.size,ob):=by
  simp[own,qA]
 have hkr:KR p (own m ph) (own (fun j=>if j=k then H.size else m j) ((k,ob)::ph0)):=fun j b' ob' h=>by
  by_cases hj:j=k
  ·subst hj;rw[hnew] at h;cases h
   rcases hk1 with h | ⟨ob0,q1,q2,q3,q4⟩
   ·exact .inr (.inr h)
   ·exact .inr (.inl ⟨_,ob0,qM q1,q2,q3,fun hh=>by rw[q3,q4] at hh;cases hh⟩)
  ·rw[hold j hj] at h;exact .inl ⟨ob',h,rfl,rfl,rfl⟩
 have hg:∀ b,b < H.size->(∀ ob0,qA k ph=some ob0->real ob0->b≠m k)->(H1.push (.cells vs.toArray ob.el (cond ob.gr zN (0,0)))).get b=H.get b:=fun b hb h=>(jQ (by rw[hs1];exact hb)).trans (hg1 b hb h)
 have hs:(H1.push (.cells vs.toArray ob.el (cond ob.gr zN (0,0)))).size=H.size+1:=by show H1.size+1=_;rw[hs1]
 have hzk:∀ b,Z b->∀ ob0,qA k ph=some ob0->real ob0->b≠m k:=fun b hz ob0 q1 q2 e=>by
  rcases hp.obj k _ _ (qM q1) with h | ⟨_,_,h,_⟩
  ·exact q2 h
  ·exact h (e ▸ hz)
 have hmono:∀ {xs:List PV} {us:List Value},VRL P Z H (own m ph) xs us->(∀ j,p j=true->zZ j xs=true)->VRL P Z (H1.push (.cells vs.toArray ob.el (cond ob.gr zN (0,0)))) (own (fun j=>if j=k then H.size else m j) ((k,ob)::ph0)) xs us:=fun h hx =>
  h.mono (fun _ h=>h) (by omega) (fun b hz hb=>hg b hb (hzk b hz)) hkr hx
 refine⟨⟨fun b hz=>by have:=hp.zlt b hz;omega,fun j b o hj=>?_,fun j j' b b' o o' h1 h2 r1 r2 hne=>?_,hp.gl.mono hp.zlt (fun _ h=>h) fun b hz hb=>hg b hb (hzk b hz)⟩,⟨by omega,hb1,fun _ h=>h,fun b hb hn=>hg b hb fun ob0 q1 q2 e=>hn ⟨k,ob0,by rw[e];exact qM q1,q2⟩,fun b h _=>.inl h,fun b ⟨j,o,hj,hr⟩ hb=>?_⟩,hkr⟩
 ·by_cases e:j=k
  ·subst e;rw[hnew] at hj;cases hj;refine .inr ⟨by omega,by show H1.base<=_;rw[hb1];exact hb,fun hz=>by have:=hp.zlt _ hz;omega,.inl ⟨hsp,vs,by rw[<-hs1];exact jR,hmono hr fun i hi=>by obtain⟨rfl,_,q⟩:=hn i hi;exact q,h1⟩⟩
  ·rw[hold j e] at hj
   rcases hp.obj j b o hj with h | ⟨q1,q2,q3,q4⟩
   ·exact .inl h
   ·by_cases hro:o.gr=true∧o.cs=[]
    ·exact .inl hro
    ·exact .inr ⟨by omega,by show H1.base<=_;rw[hb1];exact q2,q3,q4.mono (hg b q1 fun ob0 r1 r2=>hp.inj j k b (m k) o ob0 hj (qM r1) hro r2 e) fun _ q5=>hmono q5 fun i hi=>by obtain⟨rfl,q,_⟩:=hn i hi;exact jX q (vL hj).1⟩
 ·have lt:∀ {i c oc},i≠k->own (fun j=>if j=k then H.size else m j) ((k,ob)::ph0) i=some (c,oc)->real oc->c < H.size:=fun hi h hr=>by
   rw[hold _ hi] at h;rcases hp.obj _ _ _ h with q | q
   ·exact absurd q hr
   ·exact q.1
  by_cases e:j=k
  ·subst e;rw[hnew] at h1;cases h1;have:=lt (Ne.symm hne) h2 r2;omega
  ·by_cases e':j'=k
   ·subst e';rw[hnew] at h2;cases h2;have:=lt hne h1 r1;omega
   ·rw[hold _ e] at h1;rw[hold _ e'] at h2;exact hp.inj j j' b b' o o' h1 h2 r1 r2 hne
 ·by_cases e:j=k
  ·subst e;rw[hnew] at hj;cases hj;omega
  ·rw[hold j e] at hj;exact⟨j,o,hj,hr⟩
theorem Hp.push (hp:Hp P Z H (own m ph))(hsp:spec P ob.el=false)(hn:gZ k ph=true)(hc:zZ k ob.cs=true)(hr:VRL P Z H (own m ph) ob.cs vs)(h1:vs.all oneCell=true)(hb:H.base<=H.size) :
 Hp P Z (H.push (.cells vs.toArray ob.el (cond ob.gr zN (0,0)))) (own (fun j=>if j=k then H.size else m j) ((k,ob)::ph)) ∧
  Step Z H (own m ph) Z (H.push (.cells vs.toArray ob.el (cond ob.gr zN (0,0)))) (own (fun j=>if j=k then H.size else m j) ((k,ob)::ph))∧KR (fun j=>j==k) (own m ph) (own (fun j=>if j=k then H.size else m j) ((k,ob)::ph)) :=
 hp.zJQ rfl rfl (fun _ _ _=>rfl) hsp (.inl (by simp)) (fun j hj=>⟨by simpa using hj,hn,hc⟩) hr h1 hb fun _ _=>rfl
theorem jK:own (fun j=>if j=k then b else m j) ((k,ob)::ph) k=some (b,ob):=by simp[own,qA]
theorem Hp.put {m:Nat->Nat}{ph:PHp}(hp:Hp P Z H (own m ph)){k:Nat}{ob:PO}{cs:List PV}{vs:List Value}(hl:qA k ph=some ob)(hre:real ob)(hsp:spec P ob.el=false)(hlen:cs.length=ob.cs.length)(hr:VRL P Z H (own m ph) cs vs)(h1:vs.all oneCell=true) :
 Hp P Z (H.put (m k) (.cells vs.toArray ob.el (cond ob.gr zN (0,0)))) (own m (xL k { ob with cs:=cs } ph)) ∧
  Step Z H (own m ph) Z (H.put (m k) (.cells vs.toArray ob.el (cond ob.gr zN (0,0)))) (own m (xL k { ob with cs:=cs } ph))∧∀ p,KR p (own m ph) (own m (xL k { ob with cs:=cs } ph)):=by
 have hk:=qM (m:=m) hl
 have zFY:real { ob with cs:=cs }:=fun h=>by
  have h2:cs=[]:=h.2;rw[h2] at hlen;exact hre ⟨h.1,zN7.1 hlen.symm⟩
 have hold:∀ j,j≠k->own m (xL k { ob with cs:=cs } ph) j=own m ph j:=fun j hj=>by
  unfold own;rw[zA,if_neg (fun h=>hj h.1)]
 have hnew:own m (xL k { ob with cs:=cs } ph) k=some (m k,{ ob with cs:=cs }):=by
  unfold own;rw[zA,if_pos ⟨rfl,by rw[hl];rfl⟩];rfl
 have hkr:∀ p,KR p (own m ph) (own m (xL k { ob with cs:=cs } ph)):=fun p j b' ob' h=>by
  by_cases hj:j=k
  ·subst hj;rw[hnew] at h;cases h;exact .inl ⟨ob,hk,hlen.symm,rfl,rfl⟩
  ·rw[hold j hj] at h;exact .inl ⟨ob',h,rfl,rfl,rfl⟩
 obtain⟨w1,w2,w3,ws0,w4,w5,w6⟩:m k < H.size∧H.base<=m k∧¬ Z (m k)∧∃ vs,H.get (m k)=some (.cells vs.toArray ob.el (cond ob.gr zN (0,0)))∧VRL P Z H (own m ph) ob.cs vs∧vs.all oneCell=true:=by
  rcases hp.obj k (m k) ob hk with h | ⟨x1,x2,x3,x4⟩
  ·exact absurd h hre
  ·rcases x4 with ⟨_,x4⟩ | ⟨x4,_⟩
   ·exact⟨x1,x2,x3,x4⟩
   ·rw[hsp] at x4;cases x4
 have hg:∀ b,b≠m k->(H.put (m k) (.cells vs.toArray ob.el (cond ob.gr zN (0,0)))).get b=H.get b:=fun b hb=>xP hb
 have hmono:∀ {xs:List PV} {us:List Value},VRL P Z H (own m ph) xs us->VRL P Z (H.put (m k) (.cells vs.toArray ob.el (cond ob.gr zN (0,0)))) (own m (xL k { ob with cs:=cs } ph)) xs us:=fun h =>
  h.mono (p:=fun _=>false) (H:=H) (H':=H.put (m k) (.cells vs.toArray ob.el (cond ob.gr zN (0,0)))) (fun _ h=>h) (zM0 _) (fun b hz hb=>hg b fun e=>w3 (e ▸ hz)) (hkr _) fun j hj=>by cases hj
 refine⟨⟨fun b hz=>hp.zlt b hz,fun j b o hj=>?_,fun j j' b b' o o' h1 h2 r1 r2 hne=>?_,hp.gl.mono hp.zlt (fun _ h=>h) fun b hz hb=>hg b fun e=>w3 (e ▸ hz)⟩,⟨zM0 _,rfl,fun _ h=>h,fun b hb hn=>hg b fun e=>hn ⟨k,ob,by rw[e];exact hk,hre⟩,fun b h _=>.inl h,fun b ⟨j,o,hj,hr⟩ hb=>?_⟩,hkr⟩
 ·by_cases e:j=k
  ·subst e;rw[hnew] at hj;cases hj;exact .inr ⟨w1,w2,w3,.inl ⟨hsp,vs,u7,hmono hr,h1⟩⟩
  ·rw[hold j e] at hj
   rcases hp.obj j b o hj with h | ⟨q1,q2,q3,q4⟩
   ·exact .inl h
   ·by_cases hro:real o
    ·exact .inr ⟨q1,q2,q3,q4.mono (hg b (hp.inj j k b (m k) o ob hj hk hro hre e)) fun _ q5=>hmono q5⟩
    ·by_cases hx:o.gr=true∧o.cs=[]
     ·exact .inl hx
     ·exact absurd hx hro
 ·have back:∀ {i c oc},own m (xL k { ob with cs:=cs } ph) i=some (c,oc)->real oc->∃ oc',own m ph i=some (c,oc')∧real oc':=fun {i c oc} h hr=>by
   by_cases e:i=k
   ·subst e;rw[hnew] at h;cases h;exact⟨ob,hk,hre⟩
   ·rw[hold _ e] at h;exact⟨oc,h,hr⟩
  obtain⟨o1,e1,f1⟩:=back h1 r1;obtain⟨o2,e2,f2⟩:=back h2 r2;exact hp.inj j j' b b' o1 o2 e1 e2 f1 f2 hne
 ·by_cases e:j=k
  ·subst e;rw[hnew] at hj;cases hj;exact⟨j,ob,hk,hre⟩
  ·rw[hold j e] at hj;exact⟨j,o,hj,hr⟩
end Go.Idl
namespace Go.Idl
variable [Gc]
variable {P:Program}{Z:Nat->Prop}{H:IH}{M:Nat->Option (Nat×PO)}{m:Nat->Nat}{ph:PHp}
variable {H':IH}{M':Nat->Option (Nat×PO)}{a x:PV}{b k n off s tt:Nat}{cs z:List PV}{el t:TypeId}{ob:PO}{ph':PHp}{ps:List (Nat×PV)}{qs:List (Nat×Value)}{u v:Value}{vs:List Value}
def qIU (P:Program)(t:TypeId)(vs:List Value)(off:Nat):Option Value:=match qPK P t with
 | some true=>(match szT P t with
   | some n=>if off+n<=vs.length then some (.agg ((vs.drop off).take n).toArray) else none
   | none=>none)
 | some false=>vs[off]?
 | none=>none
theorem qDS {fz:Nat×Nat}(h:H.get b=some (.cells vs.toArray el fz)):uW P t (.pointer (some ⟨b,off,none⟩)) H=qIU P t vs off:=by
 unfold uW qIU IH.load IH.loads;simp only[h]
 cases qPK P t with
 | none=>rfl
 | some x =>
   cases x with
   | false=>simp
   | true =>
     cases szT P t with
     | none=>rfl
     | some n =>
       simp only[zPN];by_cases hc:off+n<=vs.length
       ·rw[if_pos hc,if_pos hc]
       ·rw[if_neg hc,if_neg hc]
theorem qL5 {vs:Array Value}:qQ2 P t vs off=qIU P t vs.toList off:=by
 unfold qQ2 qIU
 cases qPK P t with
 | none=>rfl
 | some x =>
   cases x with
   | false=>simp
   | true =>
     cases szT P t with
     | none=>rfl
     | some n =>
       simp only[zN8];by_cases hc:off+n<=vs.size
       ·rw[if_pos hc,if_pos hc]
        congr 2
        apply zOJ;rw[Array.toList_extract,List.extract_eq_take_drop]
        congr 1;omega
       ·rw[if_neg hc,if_neg hc]
theorem VRL.toA (h:VRL P Z H M cs vs):VR P Z H M (.agg cs) (.agg vs.toArray):=.agg (by simpa using h.len) fun i x v h1 h2=>h.val i x v h1 (by simpa using h2)
theorem qGY (h:VRL P Z H M cs vs)(hp:aJ P t cs off=some x):∃ v,qIU P t vs off=some v∧VR P Z H M x v:=by
 unfold aJ at hp;unfold qIU;split at hp
 ·rename_i ha;split at hp
  ·rename_i n hn
   cases hc:Nat.ble (off+n) cs.length with
   | false=>rw[hc] at hp;cases hp
   | true =>
     rw[hc] at hp;cases hp;have hle:off+n<=cs.length:=zM9 hc
     try simp only[ha,hn]
     rw[if_pos (by rw[<-h.len];exact hle)];exact⟨_,rfl,((h.drop off).take n).toA⟩
  ·cases hp
 ·rename_i ha;rw[qG] at hp;obtain⟨v,h1,h2⟩:=h.get hp
  try simp only[ha]
  exact⟨v,h1,h2⟩
 ·cases hp
theorem qS1 {cs:List FV}(hl:cs.length=vs.length)(hc:∀ (i:Nat) x v,cs[i]?=some x->vs[i]?=some v->FR Z H x v):VRL P Z H M (cs.map .f) vs :=
 ⟨by simpa using hl,fun i x v h1 h2=>by
   rw[zNC] at h1;obtain⟨y,h3,rfl⟩:=zM8.1 h1
   exact .f (hc i y v h3 h2)⟩
theorem q2I {cs:List FV}(h:qMV P t cs off=some x):aJ P t (cs.map .f) off=some x:=by
 unfold qMV at h;unfold aJ;split at h
 ·rename_i ha
  try simp only[ha]
  split at h
  ·rename_i n hn;simp only[zNA]
   cases hc:Nat.ble (off+n) cs.length with
   | false=>rw[hc] at h;cases h
   | true=>rw[hc] at h;cases h;simp[zPA,zO5]
  ·cases h
 ·rename_i ha
  try simp only[ha]
  rw[qG,zNC];split at h
  ·rename_i y hy;cases h;rw[hy];rfl
  ·cases h
 ·cases h
theorem q0A {o:Nat}(hl:H.loads b o n=some vs)(h:qIU P t vs off=some v):uW P t (.pointer (some ⟨b,o+off,none⟩)) H=some v:=by
 unfold IH.loads at hl;split at hl
 ·rename_i c el fz hg;split at hl
  ·rename_i hn;cases hl;rw[qDS (vs:=c.toList) (el:=el) (fz:=fz) (by simpa using hg)];unfold qIU at h ⊢;split at h
   ·rename_i ha
    try simp only[ha]
    split at h
    ·rename_i k hk
     try simp only[hk]
     split at h
     ·rename_i hle;cases h;simp only[zOA,zPQ,zN8] at hle;rw[if_pos (by rw[zN8];omega)]
      congr 3
      rw[List.drop_take,zQD,zQT]
      congr 1;omega
     ·cases h
    ·cases h
   ·rename_i ha
    try simp only[ha]
    rw[zOO] at h;split at h
    ·rw[zOQ] at h;exact h
    ·cases h
   ·cases h
  ·cases hl
 ·cases hl
theorem uK (h:VR P Z H (own m ph) (.ref k tt off) v)(hl:qA k ph=some ob)(he:tt=ob.cs.length):v=.pointer (some ⟨m k,off,none⟩)∧(ob.gr=true->tt≠0):=by
 cases h with
 | ref _ h=>exact (h (m k) ob (qM hl)).2 he
theorem Hp.zJR (hp:Hp P Z H (own m ph))(hl:qA k ph=some ob)(hr:real ob):m k < H.size∧H.base<=m k∧¬ Z (m k):=by
 rcases hp.obj k (m k) ob (qM hl) with h | ⟨x1,x2,x3,x4⟩
 ·exact absurd h hr
 ·exact⟨x1,x2,x3⟩
theorem Hp.real (hp:Hp P Z H (own m ph))(hl:qA k ph=some ob)(hr:real ob)(hsp:spec P ob.el=false):m k < H.size∧H.base<=m k∧¬ Z (m k)∧∃ vs,H.get (m k)=some (.cells vs.toArray ob.el (cond ob.gr zN (0,0)))∧VRL P Z H (own m ph) ob.cs vs∧vs.all oneCell=true:=by
 rcases hp.obj k (m k) ob (qM hl) with h | ⟨x1,x2,x3,x4⟩
 ·exact absurd h hr
 ·rcases x4 with ⟨_,x4⟩ | ⟨x4,_⟩
  ·exact⟨x1,x2,x3,x4⟩
  ·rw[hsp] at x4;cases x4
theorem nG {α:Type}{b:Bool}{x:Option α}{y:α}(h:cond b x none=some y):b=true∧x=some y:=by
 cases b with
 | false=>cases h
 | true=>exact⟨rfl,h⟩
theorem gH {α:Type}{b:Bool}{x:Option α}{y:α}(h:cond b none x=some y):b=false∧x=some y:=by
 cases b with
 | true=>cases h
 | false=>exact⟨rfl,h⟩
theorem xR (h:szT P el=some s):spec P el=false:=by unfold spec;rw[h];rfl
theorem qLW (he:tt=ob.cs.length)(h:ob.gr=true->tt≠0):Go.Idl.real ob:=fun ⟨h1,h2⟩=>h h1 (by rw[he,h2];rfl)
theorem qO7 (hp:Hp P Z H (own m ph))(ha:VR P Z H (own m ph) a v)(h:fH P t a ph=some x):∃ u,uW P t v H=some u∧VR P Z H (own m ph) x u:=by
 unfold fH at h;split at h
 ·rename_i k tt off;split at h
  ·rename_i ob hl;obtain⟨hsp,h⟩:=gH h
   cases hb:Nat.beq tt ob.cs.length with
   | false=>rw[hb] at h;cases h
   | true =>
     rw[hb] at h;have he:=zMZ hb;obtain⟨rfl,hz⟩:=uK ha hl he;obtain⟨_,_,_,vs,q1,q2,q3⟩:=hp.real hl (qLW he hz) hsp;obtain⟨u,h1,h2⟩:=qGY q2 h;exact⟨u,by rw[qDS q1];exact h1,h2⟩
  ·cases h
 ·rename_i cs off
  cases ha with
  | lp hz hb hl hc =>
    obtain⟨u,h1,h2⟩:=qGY (P:=P) (M:=own m ph) (qS1 (by rw[xX hl]) hc) (q2I h);exact⟨u,q0A hl h1,h2⟩
 ·cases h
theorem qW6 {p:Nat->Bool}{va vx:Value}(hp:Hp P Z H (own m ph))(ha:VR P Z H (own m ph) a va)(hx:VR P Z H (own m ph) x vx)(h:jB P t a x ph=some ph'):Res P Z H m ph p (.tup []) ph' (qLS (gY P t va vx H)):=by
 unfold jB at h;split at h
 ·rename_i k tt off;split at h
  ·rename_i ob hl;split at h
   ·rename_i n hn;obtain⟨hsp,h⟩:=gH h
    cases hb:(Nat.beq tt ob.cs.length&&(Nat.beq n (zC x).length&&(Nat.ble (off+n) ob.cs.length&&(pnt x&&(zC x).all fZ)))) with
    | false=>rw[hb] at h;cases h
    | true =>
      rw[hb] at h;cases h;simp only[zMY] at hb;obtain⟨b1,b2,b3,b4,b5⟩:=hb;have he:=zMZ b1;have hn2:=zMZ b2;have hn3:=zM9 b3;obtain⟨rfl,hz⟩:=uK ha hl he;obtain⟨w1,w2,w3,vs,q1,q2,q3⟩:=hp.real hl (qLW he hz) hsp;obtain⟨c1,c2⟩:=hx.cells b4;have c3:=c1.one b5;have hlen:off+vx.cells.toList.length<=vs.length:=by rw[<-q2.len,<-c1.len];omega
      obtain⟨r1,r2,r3⟩:=hp.put hl (qLW he hz) hsp (cZ (i:=off) (ys:=zC x) (by omega)) (q2.over c1 off) (tT q3 c3);refine⟨_,_,Z,m,?_,r1,.tup (vs:=#[]) rfl (fun i x v h=>by simp at h),r2,r3 p⟩
      have:gY P t (.pointer (some ⟨m k,off,none⟩)) vx H=some (H.put (m k) (.cells (overwrite vs off vx.cells.toList).toArray ob.el (cond ob.gr zN (0,0)))):=by
       unfold gY;simp only[];rw[if_pos (by rw[hn,hn2,c1.len];simp)];unfold IH.stores;rw[q1];simp only;rw[if_pos];have hf:aZ (cond ob.gr zN (0,0))=true:=by cases ob.gr <;> rfl
       simp only[hf,c3,w2,decide_true,zO9,decide_eq_true_eq,zPN];exact hlen
      rw[this];rfl
   ·cases h
  ·cases h
 ·cases h
theorem q0N (h:zc P t=some z):∃ zv,qCC P t=some zv∧VRL P Z H M z zv.cells.toList∧zv.cells.toList.all oneCell=true∧z=kP fvv zv.cells.toList:=by
 unfold zc at h;split at h
 ·rename_i zv hz
  cases hc:jZ okC zv.cells.toList with
  | false=>rw[hc] at h;cases h
  | true =>
    rw[hc] at h;cases h;exact⟨zv,hz,.of_map (fun v h=>kE h) hc,qX8 hc,rfl⟩
 ·cases h
theorem p9 (k:Nat):∀ (l:List Value),zZ k (kP fvv l)=true
 | []=>rfl
 | v::l=>by
   show (noK k (fvv v)&&zZ k (kP fvv l))=true;rw[p9 k l];rfl
theorem oP {k:Nat}:∀ {l r:List PV},zZ k (l++r)=(zZ k l&&zZ k r)
 | [],r=>by simp[zZ]
 | x::l,r=>by simp only[zPD,zZ,oP (l:=l),Bool.and_assoc]
theorem qAV {k:Nat}:∀ {l:List PV} {n:Nat},zZ k l=true->zZ k (l.take n)=true
 | [],n,_=>by simp[zZ]
 | x::l,0,_=>rfl
 | x::l,n+1,h=>by
   simp only[zZ,zMY] at h;simp only[zO2,zZ,zMY];exact⟨h.1,qAV h.2⟩
theorem qB5 {k:Nat}:∀ {l:List PV} {n:Nat},zZ k l=true->zZ k (l.drop n)=true
 | [],n,_=>by simp[zZ]
 | x::l,0,h=>h
 | x::l,n+1,h=>by
   simp only[zZ,zMY] at h;rw[List.drop_succ_cons];exact qB5 h.2
theorem qE8 {k:Nat}{z:List PV}(h:zZ k z=true):∀ (n:Nat),zZ k (qHP n z)=true
 | 0=>rfl
 | n+1=>by
   have:qHP (n+1) z=z++qHP n z:=by unfold qHP;rw[zOV,zQV]
   rw[this,oP,h,qE8 h n];rfl
theorem qHV (h:noK k x=true):zZ k (zC x)=true:=by
 cases x <;> first | exact h | (simp only[zC,zZ,h,zO9])
theorem qN4:(qHP n z).length=n*z.length:=by unfold qHP;simp
theorem VRL.row {z:List PV}{vs:List Value}(h:VRL P Z H M z vs):∀ (n:Nat),VRL P Z H M (qHP n z) (List.replicate n vs).flatten
 | 0=>.nil
 | n+1=>by
   have e1:qHP (n+1) z=z++qHP n z:=by unfold qHP;rw[zOV,zQV]
   rw[e1,zOV,zQV];exact h.append (VRL.row h n)
theorem flat_get {α:Type}{vs:List α}(hs:0 < vs.length):∀ (n i:Nat),i < n*vs.length->(List.replicate n vs).flatten[i]?=vs[i % vs.length]?
 | 0,i,h=>by omega
 | n+1,i,h=>by
   rw[zOV,zQV];by_cases hi:i < vs.length
   ·rw[zON hi,Nat.mod_eq_of_lt hi]
   ·have hi':vs.length<=i:=by omega
    rw[zOL hi',flat_get hs n (i - vs.length) (by rw[zPS] at h;omega),Nat.mod_eq_sub_mod hi']
theorem qEY {zv:Value}(hz:qCC P el=some zv)(hs:zv.cells.toList.length=s+1):aF P el (n*(s+1))=some ((List.replicate n zv.cells.toList).flatten).toArray:=by
 unfold aF;by_cases h0:n*(s+1)=0
 ·have:n=0:=by
   rcases zQN.1 h0 with h | h
   ·exact h
   ·omega
  subst this;rw[if_pos h0];rfl
 ·rw[if_neg h0,hz];simp only[zNE,zM7];have hs':zv.cells.size=s+1:=by simpa using hs
  apply zOJ;apply zOI;intro i;by_cases hi:i < n*(s+1)
  ·rw[flat_get (by omega) n i (by rw[hs];exact hi)];have hm:i % (s+1) < zv.cells.size:=by rw[hs'];exact Nat.mod_lt _ (by omega)
   have e:zv.cells[i % (s+1)]! = zv.cells[i % (s+1)]:=by rw[getElem!_pos zv.cells (i % (s+1)) hm]
   simp[hi,hs',hs,zNG hm,e]
  ·rw[zOF (by simp;omega),zOF (by simp[hs];omega)]
theorem qOK (h:vs.all oneCell=true)(n:Nat):((List.replicate n vs).flatten).all oneCell=true:=by
 rw[zM1] at h ⊢;intro x hx;rw[zP4] at hx;obtain⟨l,h1,h2⟩:=hx;rw[List.mem_replicate] at h1;exact h x (h1.2 ▸ h2)
theorem qOC {off:Nat}:∀ (vs:List Value) (j:Nat) (c:Array Value),off+j+vs.length<=c.size->((vs.zipIdx j).foldl (fun cs (p:Value×Nat)=>cs.setIfInBounds (off+p.2) p.1) c).toList=overwrite c.toList (off+j) vs
 | [],j,c,_=>by simp[nT]
 | v::vs,j,c,h=>by
   simp only[zNZ] at h;rw[zQF,zOR,qOC vs (j+1) _ (by simp;omega),eG _ _ _ _ (by simp;omega)];simp[zOW]
def PVs (P:Program)(Z:Nat->Prop)(H:IH)(M:Nat->Option (Nat×PO))(ps:List (Nat×PV))(qs:List (Nat×Value)):Prop:=ps.map (·.1)=qs.map (·.1)∧VRL P Z H M (ps.map (·.2)) (qs.map (·.2))
theorem qG6 {place:Nat->Option (Nat×Nat)}:∀ {ps:List (Nat×PV)} {qs:List (Nat×Value)} {cs r:List PV} {vs:Array Value},PVs P Z H M ps qs->VRL P Z H M cs vs.toList->vs.toList.all oneCell=true->qJF place cs ps=some r ->
 ∃ ws,Instr.fill place vs qs=some ws∧VRL P Z H M r ws.toList∧ws.toList.all oneCell=true∧r.length=cs.length∧qs.all (fun p=>zI p.2)=true∧∀ k,zZ k cs=true->zZ k (ps.map (·.2))=true->zZ k r=true
 | [],qs,cs,r,vs,hq,hv,h1,h=>by
   have:qs=[]:=by
    have:=hq.1;simpa using this.symm
   subst this;simp only[qJF,zM7] at h;subst h;exact⟨vs,rfl,hv,h1,rfl,rfl,fun k h _=>h⟩
 | (i,x)::ps,qs,cs,r,vs,hq,hv,h1,h=>by
   cases qs with
   | nil=>have:=hq.1;simp at this
   | cons q qs =>
     obtain⟨j,v⟩:=q;have e1:=hq.1;simp only[zNH,zNW] at e1;obtain⟨rfl,e1⟩:=e1;have e2:=hq.2;simp only[zNH] at e2;obtain⟨v',vs',e3,e4,e5⟩:=e2.zFD;simp only[zNW] at e3;obtain⟨rfl,rfl⟩:=e3;unfold qJF at h;split at h
     ·rename_i off size hpl
      cases hb:(Nat.beq (zC x).length size&&(Nat.ble (off+size) cs.length&&(pnt x&&(zC x).all fZ))) with
      | false=>rw[hb] at h;cases h
      | true =>
        rw[hb] at h;simp only[zMY] at hb;obtain⟨b1,b2,b3,b4⟩:=hb;have l1:=zMZ b1;have l2:=zM9 b2;obtain⟨c1,c2⟩:=e4.cells b3;have c3:=c1.one b4;have hsz:v.cells.size=size:=by rw[<-l1,c1.len];simp
        have hcl:=hv.len;have hvl:off+v.cells.toList.length<=vs.size:=by simp only[zN8] at hcl ⊢;omega
        have zJS:(v.cells.zipIdx.foldl (fun cs (c,j)=>cs.setIfInBounds (off+j) c) vs).toList=overwrite vs.toList off v.cells.toList:=by
         have:=qOC (off:=off) v.cells.toList 0 vs (by simpa using hvl);rw[<-zPF,Array.toList_zipIdx];simpa using this
        obtain⟨ws,r1,r2,r3,r4,r5,r6⟩:=qG6 (vs:=v.cells.zipIdx.foldl (fun cs (c,j)=>cs.setIfInBounds (off+j) c) vs) ⟨e1,e5⟩ (by rw[zJS];exact hv.over c1 off) (by rw[zJS];exact tT h1 c3) h;refine⟨ws,?_,r2,r3,by rw[r4,cZ (by omega)],by simp only[zOD,c2,r5,zNX],fun k k1 k2=>?_⟩
        ·unfold Instr.fill;simp only[hpl]
         have hcd:¬ (decide (v.cells.size≠size)||decide (off+v.cells.size > vs.size))=true:=by
          simp only[zN8] at hvl;simp[hsz];omega
         rw[if_neg hcd];exact r1
        ·simp only[zNH,zZ,zMY] at k2;refine r6 k ?_ k2.2;unfold yH;rw[oP,oP,qAV k1,qHV k2.1,qB5 k1];rfl
     ·cases h
theorem qT3 {env:List PV}{zFA:Env}(he:VRL P Z H M env zFA):∀ (ps:List (Nat×Operand)),PVs P Z H M (ps.map fun p=>(p.1,qJ env p.2)) (ps.map fun p=>(p.1,zFA.val p.2))
 | []=>⟨rfl,.nil⟩
 | p::ps=>by
   obtain⟨h1,h2⟩:=qT3 he ps;exact⟨by simp only[zNH,h1],by simp only[zNH];exact .cons (qK he p.2) h2⟩
theorem qVD (hq:PVs P Z H M ps qs)(h:qH6 P t ps=some x):∃ v,qI1 P t qs=some v∧VR P Z H M x v:=by
 unfold qH6 at h;split at h
 ·rename_i z hz;obtain⟨zv,z1,z2,z3,_⟩:=q0N (Z:=Z) (H:=H) (M:=M) hz
  cases hb:qBY P t with
  | false=>rw[hb] at h;cases h
  | true =>
    rw[hb] at h;simp only[cond_true] at h;split at h
    ·rename_i cs hf;cases h;obtain⟨ws,r1,r2,r3,r4,r5,r6⟩:=qG6 hq z2 z3 hf;refine⟨.agg ws,?_,?_⟩
     ·unfold qI1;simp only[z1];unfold qBY at hb;unfold qXA at r1;split at hb
      ·rename_i fields hu;simp only[hu] at r1 ⊢;obtain⟨places,hpl⟩:=zN2.1 hb;simp only[hpl,r5,if_true]
       have:(fun (i:Nat)=>places.toArray[i]?)=(fun (i:Nat)=>match fields[i]? with | some (f:Field)=>(szT P f.type).map fun s=>(f.offset,s) | none=>none):=by
        funext i
        rw[zO3]
        have key:∀ (l:List Field) (pl:List (Nat×Nat)) (i:Nat),l.mapM (fun (f:Field)=>(szT P f.type).map fun s=>(f.offset,s))=some pl->pl[i]?=(match l[i]? with | some (f:Field)=>(szT P f.type).map fun s=>(f.offset,s) | none=>none):=by
         intro l
         induction l with
         | nil=>intro pl i h;simp at h;subst h;simp
         | cons f l ih =>
           intro pl i h;rw[zRE] at h
           cases hs:szT P f.type with
           | none=>rw[hs] at h;cases h
           | some s =>
             rw[hs] at h
             cases hm:l.mapM (fun (f:Field)=>(szT P f.type).map fun s=>(f.offset,s)) with
             | none=>rw[hm] at h;cases h
             | some pl' =>
               rw[hm] at h;have h':some ((f.offset,s)::pl')=some pl:=h;cases h'
               cases i with
               | zero=>simp[hs]
               | succ i=>simpa using ih pl' i hm
        have:=key fields.toList places i hpl;rw[this];simp
       have r1':Instr.fill (fun i=>places.toArray[i]?) zv.cells qs=some ws:=by rw[this];exact r1
       rw[r1'];rfl
      ·rename_i n el hu;simp only[hu] at r1 ⊢;obtain⟨s,hs⟩:=zN2.1 hb;simp only[hs,zNE] at r1 ⊢;simp only[r5,if_true,r1];rfl
      ·cases hb
     ·have:=r2.toA;simpa using this
    ·cases h
 ·cases h
theorem vT {v:PV}{ph:PHp}(h:qCP k ob v ph=some (x,ph')):x=v∧ph'=(k,ob)::ph:=by
 unfold qCP at h;cases h;exact⟨rfl,rfl⟩
theorem qNZ {s:Option zFH}(hsp:spec P ob.el=false)(hp:Hp P Z H (own m ph))(hb:H.base<=H.size)(hn:gZ k ph=true)(hc:zZ k ob.cs=true)(hr:VRL P Z H (own m ph) ob.cs vs)(h1:vs.all oneCell=true)
 (hs:s=some (.val u (H.push (.cells vs.toArray ob.el (cond ob.gr zN (0,0))))))
 (hx:∀ H' M',M' k=some (H.size,ob)->VR P Z H' M' x u):Res P Z H m ph (fun j=>j==k) x ((k,ob)::ph) s:=by
 obtain⟨r1,r2,r3⟩:=hp.push hsp hn hc hr h1 hb;exact⟨u,_,Z,_,hs,r1,hx _ _ jK,r2,r3⟩
theorem qXQ {t:Nat}(hM:M' k=some (b,ob))(hs:szT P ob.el=some s)(h0:0 < s)(hl:ob.cs.length=t*s)(hg:ob.gr=true->t≠0) :
 VR P Z H' M' (.own k t 0 t) (.slice (some ⟨b,0,cond ob.gr (some ob.el) none⟩) t t):=by
 refine .own rfl fun b' ob' h=>?_
 rw[hM] at h;cases h;exact⟨s,hs,h0,by omega,fun _=>.inr ⟨hg,by omega,.inl rfl,by simp⟩⟩
theorem qI6 (hM:M' k=some (b,ob))(hg:ob.gr=true->ob.cs.length≠0):VR P Z H' M' (.ref k ob.cs.length off) (.pointer (some ⟨b,off,none⟩)):=by
 refine .ref rfl fun b' ob' h=>?_
 rw[hM] at h;cases h;exact⟨zM0 _,fun _=>⟨rfl,hg⟩⟩
theorem q63 (c:Array Value):c.toList.toArray=c:=by simp
theorem qV9 (hp:Hp P Z H (own m ph))(hb:H.base<=H.size)(hn:gZ k ph=true)(h:dQ P el k ph=some (x,ph')):Res P Z H m ph (fun j=>j==k) x ph' (sG P el H):=by
 unfold dQ at h;split at h
 ·rename_i z hz;obtain⟨zv,z1,z2,z3,z4⟩:=q0N (Z:=Z) (H:=H) (M:=own m ph) hz;obtain⟨hsp,h⟩:=gH h;obtain⟨rfl,rfl⟩:=vT h;refine qNZ hsp hp hb hn (by rw[z4];exact p9 _ _) z2 z3 (u:=.pointer (some ⟨H.size,0,none⟩)) ?_ fun H' M' hM=>qI6 hM fun h=>by cases h
  unfold sG;simp only[z1,q63];rfl
 ·cases h
theorem q7K {v:PV}(hp:Hp P Z H (own m ph))(hb:H.base<=H.size)(hn:gZ k ph=true)(hv:VR P Z H (own m ph) v u)(hk:noK k v=true)(h:q2P P el v k ph=some (x,ph')):Res P Z H m ph (fun j=>j==k) x ph' (q67 el u H):=by
 unfold q2P at h
 cases hc0:(!(spec P el)&&(pnt v&&(zC v).all fZ)) with
 | false=>rw[hc0] at h;cases h
 | true =>
   rw[hc0] at h;rw[zMY,zNJ,zMY] at hc0;have hsp:=hc0.1;have hc:=hc0.2;obtain⟨rfl,rfl⟩:=vT h;obtain⟨c1,c2⟩:=hv.cells hc.1;refine qNZ hsp hp hb hn (qHV hk) c1 (c1.one hc.2) (u:=.pointer (some ⟨H.size,0,none⟩)) ?_ fun H' M' hM=>qI6 hM fun h=>by cases h
   unfold q67;rw[if_pos c2];simp only[q63];rfl
theorem zS (h:zR P t=some el):P.underlying t=some (.slice el):=by
 unfold zR at h;split at h
 ·rename_i e he;cases h;exact he
 ·cases h
theorem qDA {len:Nat}(hp:Hp P Z H (own m ph))(hb:H.base<=H.size)(hn:gZ k ph=true)(hq:PVs P Z H (own m ph) ps qs)(hk:zZ k (ps.map (·.2))=true)
 (h:z8 P t len ps k ph=some (x,ph')):Res P Z H m ph (fun j=>j==k) x ph' (kJ P t len qs H):=by
 unfold z8 at h;split at h
 ·rename_i el he;split at h
  ·rename_i s z hs hz;obtain⟨zv,z1,z2,z3,z4⟩:=q0N (Z:=Z) (H:=H) (M:=own m ph) hz
   cases hc:(Nat.beq z.length (s+1)&&Nat.ble (len*(s+1)) 65536) with
   | false=>rw[hc] at h;cases h
   | true =>
     rw[hc] at h;simp only[cond_true] at h;rw[zMY] at hc;have l1:=zMZ hc.1;have l2:=zM9 hc.2;split at h
     ·rename_i cs hf;obtain⟨rfl,rfl⟩:=vT h;have hrow:=z2.row len;have hz1:zv.cells.toList.length=s+1:=by rw[<-z2.len,l1]
      have zr:=qEY (P:=P) (n:=len) z1 hz1;obtain⟨ws,r1,r2,r3,r4,r5,r6⟩:=qG6 (vs:=((List.replicate len zv.cells.toList).flatten).toArray) hq (by simpa using hrow) (by simpa using qOK z3 len) hf;have hlen:cs.length=len*(s+1):=by rw[r4,qN4,l1]
      refine qNZ (u:=.slice (some ⟨H.size,0,none⟩) len len) (xR hs) hp hb hn (r6 k (qE8 (by rw[z4];exact p9 _ _) _) hk) r2 r3 ?_ fun H' M' hM=>qXQ hM hs (by omega) hlen (fun h=>by cases h)
      unfold kJ;simp only[zS he,hs];rw[if_pos (by simp only[r5,zO9,decide_eq_true_eq];exact l2),zr];simp only[r1,q63];rfl
     ·cases h
  ·cases h
 ·cases h
theorem q4Z {z:Int}(h:mkN z=some n):z=(n:Int)∧n<=65536:=by
 unfold mkN at h;split at h
 ·rename_i hc;cases h;omega
 ·cases h
theorem qVO (h:kK P el=true):Nat.ble 1000000000 el=false:=by
 unfold kK at h;split at h
 ·rw[zMY,zNJ] at h;exact h.1
 ·cases h
theorem qEI (h:kK P el=true):∃ i,P.info? el=some i∧i.bytes<=4096∧((fD P el).map (·.cells.size))=some i.size:=by
 unfold kK at h;split at h
 ·rename_i i hi;rw[zMY] at h
  replace h:=h.2
  rw[zMY] at h;refine⟨i,hi,of_decide_eq_true h.1,?_⟩;have h2:=h.2;split at h2
  ·rename_i z hz;rw[hz];simp[zMZ h2]
  ·cases h2
 ·cases h
theorem qG8 {l c:PV}{vl vc:Value}(hp:Hp P Z H (own m ph))(hb:H.base<=H.size)(hn:gZ k ph=true)(h1:VR P Z H (own m ph) l vl)(h2:VR P Z H (own m ph) c vc)(h:y8 P t l c k ph=some (x,ph')) :
 Res P Z H m ph (fun j=>j==k) x ph' (jG P t vl vc H):=by
 unfold y8 at h;split at h
 ·rename_i el k1 zl k2 zm he;have e1:vl=.int k1 zl:=yK h1 rfl;have e2:vc=.int k2 zm:=yK h2 rfl;subst e1 e2
  cases hd:decide (zl=zm) with
  | false=>rw[hd] at h;cases h
  | true =>
    rw[hd] at h;simp only[cond_true] at h;have hd:=of_decide_eq_true hd;subst hd;split at h
    ·rename_i n s z hmk hs hz;obtain⟨zv,z1,z2,z3,z4⟩:=q0N (Z:=Z) (H:=H) (M:=own m ph) hz;obtain⟨rfl,hle⟩:=q4Z hmk
     cases hc:(kK P el&&Nat.beq z.length (s+1)) with
     | false=>rw[hc] at h;cases h
     | true =>
       rw[hc] at h;rw[zMY] at hc;obtain⟨rfl,rfl⟩:=vT h;have l1:=zMZ hc.2;have hz1:zv.cells.toList.length=s+1:=by rw[<-z2.len,l1]
       obtain⟨i,i1,i2,i3⟩:=qEI hc.1
       have isz:i.size=s+1:=by
        unfold szT at hs;rw[i1] at hs;simpa using hs
       refine qNZ (u:=.slice (some ⟨H.size,0,none⟩) n n) (xR hs) hp hb hn (qE8 (by rw[z4];exact p9 _ _) _) (z2.row n) (qOK z3 n) ?_ fun H' M' hM=>qXQ hM hs (by omega) (by rw[qN4,l1]) (fun h=>by cases h)
       unfold jG;simp only[zS he,i1];rw[if_pos]
       ·simp only[zPO,isz,qEY (P:=P) (n:=n) z1 hz1];rfl
       ·simp only[zMY,decide_eq_true_eq];have:i.bytes*n<=4096*65536:=Nat.mul_le_mul i2 hle;have e:(i.bytes:Int)*(n:Int)=((i.bytes*n:Nat):Int):=by simp
        refine⟨⟨⟨by omega,by omega⟩,by rw[e];omega⟩,by omega⟩
    ·cases h
 ·cases h
end Go.Idl
namespace Go.Idl
variable [Gc]
variable {P:Program}{Z:Nat->Prop}{H:IH}{M:Nat->Option (Nat×PO)}{m:Nat->Nat}{ph:PHp}
variable {d k most s t:Nat}{ob:PO}{v:Value}{x y:PV}
theorem vV {o n:Nat}(h:VR P Z H (own m ph) (.own k t o n) v)(hl:qA k ph=some ob)(hs:szT P ob.el=some s)(he:t*s=ob.cs.length):q7H s (m k) ob t o n v∧0 < s:=by
 cases h with
 | own _ h =>
   obtain⟨s',h1,h2,_,h4⟩:=h (m k) ob (qM hl);rw[hs] at h1;cases h1;exact⟨h4 he,h2⟩
theorem qHC (h:live? k t ph=true):∃ ob,qA k ph=some ob∧t=ob.cs.length:=by
 unfold live? at h;split at h
 ·rename_i ob hl;exact⟨ob,hl,zMZ h⟩
 ·cases h
theorem bP (he:t*s=ob.cs.length)(h0:0 < s)(hg:ob.gr=true->t≠0):real ob:=fun ⟨h1,h2⟩=>by
 have:=hg h1;rw[h2] at he;rcases zQN.1 (show t*s=0 from he) with h | h
 ·exact this h
 ·omega
theorem qJR (hx:VR P Z H (own m ph) x v)(h:yO x ph=some y):wJ v H=some (.val v H)∧y=x:=by
 unfold yO at h;split at h
 ·rename_i k t off
  cases hb:live? k t ph with
  | false=>rw[hb] at h;cases h
  | true =>
    rw[hb] at h;cases h;obtain⟨ob,h1,h2⟩:=qHC hb;obtain⟨rfl,_⟩:=uK hx h1 h2;exact⟨rfl,rfl⟩
 ·cases h;cases hx;exact⟨rfl,rfl⟩
 ·cases h;cases hx;exact⟨rfl,rfl⟩
 ·cases h;have:=yK hx rfl;subst this;exact⟨rfl,rfl⟩
 ·cases h
theorem qKS {fn:Fn}{fs cs:List PV}{vf vc:Array Value}(h1:VRL P Z H M fs vf.toList)(h2:VRL P Z H M cs vc.toList)(h:vE fn fs cs=some y):∃ v,wN fn vf vc H=some (.val v H)∧VR P Z H M y v:=by
 unfold vE at h;split at h
 ·rename_i g;refine⟨.func (.func g) vf vc,rfl,?_⟩;have gen:VR P Z H M (.fn g fs cs) (.func (.func g) vf vc):=.fn (by simpa using h1.len) (by simpa using h2.len) (fun i x v a b=>h1.val i x v a (by simpa using b)) (fun i x v a b=>h2.val i x v a (by simpa using b));cases h;split
  ·have e1:vf=#[]:=by have:=h1.zFF;simpa using this
   have e2:vc=#[]:=by have:=h2.zFF;simpa using this
   subst e1 e2;exact kE rfl
  ·exact gen
 ·cases h
theorem vO {zIR r:Nat}{x:Option PV}{v:Option Value}(hx:∀ y,x=some y->∃ u,v=some u∧VR P Z H M y u)(hn:x=none->v=none)(hle:most<=zIR)(h:bnd d most x=some r):gF d zIR v=some r:=by
 unfold bnd at h;split at h
 ·rw[hn rfl];exact h
 ·rename_i k i;obtain⟨u,rfl,hu⟩:=hx _ rfl;have:=yK hu rfl;subst this;split at h
  ·rename_i hc;cases h
   have:(decide (0<=i)&&decide (i<=(zIR:Int)))=true:=by
    simp only[zMY,decide_eq_true_eq];omega
   simp only[gF,this,if_true]
  ·cases h
 ·cases h
theorem qA9 {r:Nat}{x:Option PV}(hd:d<=most)(h:bnd d most x=some r):r<=most:=by
 unfold bnd at h;split at h
 ·cases h;exact hd
 ·split at h
  ·cases h;omega
  ·cases h
 ·cases h
def q8J (P:Program)(Z:Nat->Prop)(H:IH)(M:Nat->Option (Nat×PO))(x:Option PV)(v:Option Value):Prop:=(∀ y,x=some y->∃ u,v=some u∧VR P Z H M y u)∧(x=none->v=none)
theorem q8J.of {env:List PV}{zFA:Env}(he:VRL P Z H M env zFA)(x:Option Operand):q8J P Z H M (x.map (qJ env)) (x.map zFA.val):=by
 cases x with
 | none=>exact⟨fun y h=>(by cases h),fun _=>rfl⟩
 | some x=>exact⟨fun y h=>(by cases h;exact⟨_,rfl,qK he x⟩),fun h=>(by cases h)⟩
theorem nI {el:TypeId}{sp:Option TypeId}(h:sp=none∨sp=some el):sp.all (·==el)=true:=by
 rcases h with rfl | rfl <;> simp
theorem qSD {t:TypeId}{lo hi:Option PV}{vlo vhi:Option Value}(hp:Hp P Z H (own m ph))(hx:VR P Z H (own m ph) x v)(hlo:q8J P Z H (own m ph) lo vlo)(hhi:q8J P Z H (own m ph) hi vhi)(h:wP P t x lo hi ph=some y) :
 ∃ u,wL P t v vlo vhi none=some u∧VR P Z H (own m ph) y u:=by
 unfold wP at h;split at h
 ·-- a list that is not written
  rename_i el n cs;split at h
  ·rename_i el' s hh he hs hbh;split at h
   ·rename_i l hbl
    cases hc:(Nat.beq el' el&&Nat.beq (n*s) cs.length) with
    | false=>rw[hc] at h;cases h
    | true =>
      rw[hc] at h;cases h;rw[zMY] at hc;have hel:=zMZ hc.1;have hns:=zMZ hc.2;subst hel;have hle:hh<=n:=qA9 (zM0 _) hbh;have hll:l<=hh:=qA9 (zO1 _) hbl
      cases hx with
      | f hx =>
        cases hx with
        | nil h0 hsp =>
          rename_i a c;have hh0:hh=0:=by omega
          subst hh0;have hl0:l=0:=by omega
          subst hl0
          cases a with
          | none =>
            have:=h0 rfl;subst this;have b1:=vO hhi.1 hhi.2 (zM0 0) hbh;have b2:=vO hlo.1 hlo.2 (zM0 0) hbl;refine⟨.slice none 0 0,?_,.f (.nil (fun _=>rfl) (fun x h=>by cases h))⟩;unfold wL;simp only[zS he,hs,b1,b2]
          | some a =>
            obtain⟨b,o,sp⟩:=a;have zKR:=hsp _ rfl;have b1:=vO hhi.1 hhi.2 (zO1 c) hbh;have b2:=vO hlo.1 hlo.2 (zM0 0) hbl;refine⟨.slice (some ⟨b,if c=0 then o else o+0*s,sp⟩) (0 - 0) (c - 0),?_,.f (.nil (fun h=>by cases h) (fun x h=>by cases h;exact zKR))⟩;unfold wL;simp only[zS he,hs,b1,b2];rw[if_pos (by rw[nI zKR];simp[Nat.ble_eq])]
        | @l _ _ _ b o sp c vs hz hb hn hsp hl hcv =>
          have b1:=vO hhi.1 hhi.2 hn hbh;have b2:=vO hlo.1 hlo.2 (zM0 hh) hbl;refine⟨.slice (some ⟨b,if c=l then o else o+l*s,sp⟩) (hh - l) (c - l),?_,?_⟩
          ·unfold wL;simp only[zS he,hs,b1,b2];rw[if_pos (by rw[nI hsp];simp[Nat.ble_eq];omega)]
          ·by_cases hlh:l=hh
           ·subst hlh;have:Nat.beq l l=true:=by simp
            rw[this,Nat.sub_self];exact .f (.nil (fun h=>by cases h) (fun x h=>by cases h;exact hsp))
           ·have:Nat.beq l hh=false:=by
             cases hq:Nat.beq l hh with
             | false=>rfl
             | true=>exact absurd (zMZ hq) hlh
            rw[this,if_neg (by omega)];have hlen:=xX hl;refine .f (.l (vs:=(vs.drop (l*s)).take ((hh - l)*s)) hz hb (by omega) hsp ?_ fun i x v h1 h2=>?_)
            ·unfold IH.loads at hl ⊢;split at hl
             ·rename_i c0 el0 fz0 hg;split at hl
              ·rename_i hbd;cases hl;have hl0:l*s<=cs.length:=by rw[<-hns];exact zN4 _ (by omega)
               rw[if_pos (by simp only[zOA,zPQ];omega)];rw[List.drop_take,zQD,zQT]
               congr 2
               simp only[zOA,zPQ]
              ·cases hl
             ·cases hl
            ·have e1:cs[l*s+i]?=some x:=by
              rw[zOO] at h1;split at h1
              ·rw[zOQ] at h1;exact h1
              ·cases h1
             have e2:vs[l*s+i]?=some v:=by
              rw[zOO] at h2;split at h2
              ·rw[zOQ] at h2;exact h2
              ·cases h2
             exact hcv _ _ _ e1 e2
   ·cases h
  ·cases h
 ·-- nil
  have hv:=yK hx rfl;subst hv;split at h
  ·rename_i el h1 l1 he hbh hbl
   cases hc:(szT P el).isSome with
   | false=>rw[hc] at h;cases h
   | true =>
     rw[hc] at h;cases h;obtain⟨s,hs⟩:=zN2.1 hc;have q1:h1<=0:=qA9 (zM0 _) hbh;have q2:h1=0:=by omega
     subst q2;have b1:=vO hhi.1 hhi.2 (zM0 0) hbh;have b2:=vO hlo.1 hlo.2 (zM0 0) hbl;refine⟨.slice none 0 0,?_,hx⟩;unfold wL;simp only[zS he,hs,b1,b2]
  ·cases h
 ·-- a slice of an object
  rename_i k tt o n;split at h
  ·rename_i ob hl;split at h
   ·rename_i el' s hh he hs hbh;split at h
    ·rename_i l hbl
     cases hc:(Nat.beq el' ob.el&&Nat.beq (tt*s) ob.cs.length) with
     | false=>rw[hc] at h;cases h
     | true =>
       rw[hc] at h;cases h;rw[zMY] at hc;have hel:=zMZ hc.1;subst hel;have hts:=zMZ hc.2;have hle:hh<=n:=qA9 (zM0 _) hbh;have hll:l<=hh:=qA9 (zO1 _) hbl;obtain⟨hO,h0⟩:=vV hx hl hs hts
       rcases hO with ⟨g1,rfl,rfl,rfl,rfl⟩ | ⟨g1,g2,g3,rfl⟩
       ·have hh0:hh=0:=by omega
        subst hh0;have hl0:l=0:=by omega
        subst hl0;have b1:=vO hhi.1 hhi.2 (zM0 0) hbh;have b2:=vO hlo.1 hlo.2 (zM0 0) hbl;refine⟨.slice none 0 0,?_,hx⟩;unfold wL;simp only[zS he,hs,b1,b2]
       ·have b1:=vO hhi.1 hhi.2 (show n<=tt - o by omega) hbh;have b2:=vO hlo.1 hlo.2 (zM0 hh) hbl;have hsp:(cond ob.gr (some ob.el) none:Option TypeId)=none∨(cond ob.gr (some ob.el) none:Option TypeId)=some ob.el:=by cases ob.gr <;> simp
        refine⟨.slice (some ⟨m k,if tt - o=l then o*s else o*s+l*s,cond ob.gr (some ob.el) none⟩) (hh - l) (tt - o - l),?_,?_⟩
        ·unfold wL;simp only[zS he,hs,b1,b2];rw[if_pos (by rw[nI hsp];simp[Nat.ble_eq];omega)]
        ·by_cases hl0:l=0
         ·subst hl0;have:Nat.beq 0 0=true:=rfl;rw[this];refine .own rfl fun b' ob' hM=>?_
          rw[qM hl] at hM;cases hM;refine⟨s,hs,h0,by omega,fun _=>.inr ⟨g1,by omega,g3,?_⟩⟩;simp
         ·have e0:Nat.beq l 0=false:=by cases l with
           | zero=>exact absurd rfl hl0
           | succ l=>rfl
          rw[e0];by_cases hlh:l=hh
          ·subst hlh;have:Nat.beq l l=true:=by simp
           rw[this,Nat.sub_self];exact .f (.nil (fun h=>by cases h) (fun x h=>by cases h;exact hsp))
          ·have:Nat.beq l hh=false:=by
            cases hq:Nat.beq l hh with
            | false=>rfl
            | true=>exact absurd (zMZ hq) hlh
           rw[this,if_neg (by omega)];refine .own rfl fun b' ob' hM=>?_
           rw[qM hl] at hM;cases hM;refine⟨s,hs,h0,by omega,fun _=>.inr ⟨g1,by omega,.inr (by omega),?_⟩⟩;rw[zPK]
           congr 1;omega
    ·cases h
   ·cases h
  ·cases h
 ·-- an array
  rename_i k tt;split at h
  ·rename_i ob hl;split at h
   ·rename_i mm el ha;split at h
    ·rename_i s hh hs hbh;split at h
     ·rename_i l hbl
      cases hc:(Nat.beq el ob.el&&(Nat.beq tt ob.cs.length&&(Nat.beq (mm*(s+1)) tt&&!ob.gr))) with
      | false =>
        rw[hc] at h;simp only[cond_false] at h
        cases hc2:(Nat.beq tt ob.cs.length&&(Nat.beq mm tt&&(Nat.beq s 0&&(!ob.gr&&(Nat.beq l 0&&Nat.beq hh mm))))) with
        | false=>rw[hc2] at h;cases h
        | true =>
          rw[hc2] at h;cases h;simp only[zMY] at hc2;obtain⟨c2,c3,c4,c5,c6,c7⟩:=hc2;have ht:=zMZ c2;have hm:=zMZ c3;have hs0:=zMZ c4;have hl0:=zMZ c6;have hh0:=zMZ c7;subst hl0 hs0;rw[hh0] at hbh hbl;obtain⟨rfl,_⟩:=uK hx hl ht;have b1:=vO hhi.1 hhi.2 (zM0 mm) hbh;have b2:=vO hlo.1 hlo.2 (zM0 mm) hbl
          have hu:P.underlying t=some (.array mm el):=by
           unfold qPV at ha;split at ha
           ·rename_i a b hab;cases ha;exact hab
           ·cases ha
          refine⟨.slice (some ⟨m k,if mm=0 then 0 else 0+0*(0+1),none⟩) (mm - 0) (mm - 0),?_,?_⟩
          ·unfold wL;simp only[hu,hs,b1,b2]
          ·refine .asl rfl fun b' ob' hM=>?_
           rw[qM hl] at hM;cases hM;exact⟨by omega,fun _=>by simp⟩
      | true =>
        rw[hc] at h;cases h;simp only[zMY] at hc;obtain⟨c1,c2,c3,c4⟩:=hc;have hel:=zMZ c1;have ht:=zMZ c2;have hm:=zMZ c3;have hgr:ob.gr=false:=by simpa using c4
        subst hel;obtain⟨rfl,_⟩:=uK hx hl ht;have hle:hh<=mm:=qA9 (zM0 _) hbh;have hll:l<=hh:=qA9 (zO1 _) hbl;have b1:=vO hhi.1 hhi.2 (zM0 mm) hbh;have b2:=vO hlo.1 hlo.2 (zM0 hh) hbl
        have hu:P.underlying t=some (.array mm ob.el):=by
         unfold qPV at ha;split at ha
         ·rename_i a b hab;cases ha;exact hab
         ·cases ha
        refine⟨.slice (some ⟨m k,if mm=l then 0 else 0+l*(s+1),none⟩) (hh - l) (mm - l),?_,?_⟩
        ·unfold wL;simp only[hu,hs,b1,b2]
        ·by_cases hl0:l=0
         ·subst hl0;have:Nat.beq 0 0=true:=rfl;rw[this];refine .own rfl fun b' ob' hM=>?_
          rw[qM hl] at hM;cases hM;refine⟨s+1,hs,by omega,by omega,fun _=>.inr ⟨(by rw[hgr];intro h;cases h),by omega,.inl rfl,?_⟩⟩;simp[hgr]
         ·have e0:Nat.beq l 0=false:=by cases l with
           | zero=>exact absurd rfl hl0
           | succ l=>rfl
          rw[e0];by_cases hlh:l=hh
          ·subst hlh;have:Nat.beq l l=true:=by simp
           rw[this,Nat.sub_self];exact .f (.nil (fun h=>by cases h) (fun x h=>by cases h;exact .inl rfl))
          ·have:Nat.beq l hh=false:=by
            cases hq:Nat.beq l hh with
            | false=>rfl
            | true=>exact absurd (zMZ hq) hlh
           rw[this,if_neg (by omega)];refine .own rfl fun b' ob' hM=>?_
           rw[qM hl] at hM;cases hM;refine⟨s+1,hs,by omega,by omega,fun _=>.inr ⟨(by rw[hgr];intro h;cases h),by omega,.inr (by omega),?_⟩⟩;simp[hgr]
     ·cases h
    ·cases h
   ·cases h
  ·cases h
 ·cases h
end Go.Idl
namespace Go.Idl
variable [Gc]
variable {P:Program}{Z:Nat->Prop}{H:IH}{M:Nat->Option (Nat×PO)}{m:Nat->Nat}{ph:PHp}
variable {H0:IH}{b:Bool}{env:Env}{i n:Nat}{ix x y z:PV}{o:Oper}{op:BinOp}{t ty:TypeId}{u v vi vx vy:Value}
theorem qLR {lo hi mx:Option Value}(h:wL P t v lo hi mx=some u):wY P o t v lo hi mx env H=some (.val u H):=by
 have hs:∀ s,wL P t (.string s) lo hi mx=none:=fun s=>by
  unfold wL
  cases P.underlying t with
  | none=>rfl
  | some d=>cases d <;> cases mx <;> rfl
 unfold wY;split
 ·rw[hs] at h;cases h
 ·rw[h];rfl
theorem qY4 {t off ft:Nat}(h:zB9 P t i=some (off,ft)):∃ fields f,P.underlying t=some (.struct fields)∧fields[i]?=some f∧f.offset=off∧f.type=ft:=by
 unfold zB9 at h;split at h
 ·rename_i fields hu;split at h
  ·rename_i f hf;cases h;exact⟨fields,f,hu,hf,rfl,rfl⟩
  ·cases h
 ·cases h
theorem qAE {t el:Nat}(h:qPV P t=some (n,el)):P.underlying t=some (.array n el):=by
 unfold qPV at h;split at h
 ·rename_i a b hab;cases h;exact hab
 ·cases h
theorem qGP (hx:VR P Z H (own m ph) x v)(h:zX P t x i ph=some y):∃ u,dJ P t v i=some u∧VR P Z H (own m ph) y u:=by
 unfold zX at h;split at h
 ·rename_i off ft hf;obtain⟨fields,f,q1,q2,rfl,rfl⟩:=qY4 hf;split at h
  ·rename_i s hs
   have go:∀ b o,dJ P t (.pointer (some ⟨b,o,none⟩)) i=some (.pointer (some ⟨b,o+f.offset,none⟩)):=fun b o=>by
    unfold dJ;simp only[q1,q2,hs];rw[if_neg (by omega)]
   split at h
   ·rename_i k tt o
    cases hb:live? k tt ph with
    | false=>rw[hb] at h;cases h
    | true =>
      rw[hb] at h;cases h;obtain⟨ob,h1,h2⟩:=qHC hb;obtain⟨rfl,hz⟩:=uK hx h1 h2;refine⟨_,go _ _,.ref rfl fun b' ob' hM=>?_⟩;rw[qM h1] at hM;cases hM;exact⟨by omega,fun _=>⟨rfl,hz⟩⟩
   ·rename_i cs o;cases h
    cases hx with
    | lp hz hb hl hc =>
      refine⟨_,go _ _,?_⟩;rw[zOW];exact .lp hz hb hl hc
   ·cases h
  ·cases h
 ·cases h
theorem qCE {j:Nat}{i:Int}(h:idx n i=some j):i=(j:Int)∧j < n:=by
 unfold idx at h;split at h
 ·cases h;omega
 ·cases h
theorem qGW (hp:Hp P Z H (own m ph))(hx:VR P Z H (own m ph) x v)(hi:VR P Z H (own m ph) ix vi)(h:qZ P t x ix ph=some y):∃ u,wW P t v vi=some u∧VR P Z H (own m ph) y u:=by
 unfold qZ at h;split at h
 ·rename_i kk i;have:=yK hi rfl;subst this;split at h
  ·rename_i el n cs;split at h
   ·rename_i el' he;split at h
    ·rename_i s hs;split at h
     ·rename_i j hj;cases h;obtain⟨rfl,hlt⟩:=qCE hj
      cases hx with
      | f hx =>
        cases hx with
        | nil=>omega
        | l hz hb hn hsp hl hc =>
          refine⟨_,?_,.lp hz hb hl hc⟩;unfold wW;simp only[zS he,hs];rw[if_pos (by simp;omega)];simp
     ·cases h
    ·cases h
   ·cases h
  ·rename_i k tt o n;split at h
   ·rename_i el' ob he hl;split at h
    ·rename_i s hs;split at h
     ·rename_i j hj
      cases hc:(Nat.beq el' ob.el&&Nat.beq (tt*s) ob.cs.length) with
      | false=>rw[hc] at h;cases h
      | true =>
        rw[hc] at h;cases h;rw[zMY] at hc;have hel:=zMZ hc.1;subst hel;obtain⟨rfl,hlt⟩:=qCE hj;obtain⟨hO,h0⟩:=vV hx hl hs (zMZ hc.2)
        rcases hO with ⟨_,_,_,rfl,_⟩ | ⟨g1,g2,g3,rfl⟩
        ·omega
        ·refine⟨.pointer (some ⟨m k,(o+j)*s,none⟩),?_,qI6 (qM hl) fun hg=>?_⟩
         ·unfold wW;simp only[zS he,hs];rw[if_pos (by simp;omega)];simp[zPK]
         ·rw[<-zMZ hc.2];have:=g1 hg;exact Nat.ne_of_gt (Nat.mul_pos (by omega) h0)
     ·cases h
    ·cases h
   ·cases h
  ·rename_i k tt off;split at h
   ·rename_i n el ha;split at h
    ·rename_i s j hs hj
     cases hb:live? k tt ph with
     | false=>rw[hb] at h;cases h
     | true =>
       rw[hb] at h;cases h;obtain⟨ob,h1,h2⟩:=qHC hb;obtain⟨rfl,hz⟩:=uK hx h1 h2;obtain⟨rfl,hlt⟩:=qCE hj;refine⟨.pointer (some ⟨m k,off+j*s,none⟩),?_,.ref rfl fun b' ob' hM=>?_⟩
       ·unfold wW;simp only[qAE ha,hs];rw[if_pos (by simp;omega)];simp
       ·rw[qM h1] at hM;cases hM;exact⟨by omega,fun _=>⟨rfl,hz⟩⟩
    ·cases h
   ·cases h
  ·rename_i cs off;split at h
   ·rename_i n el ha;split at h
    ·rename_i s j hs hj;cases h;obtain⟨rfl,hlt⟩:=qCE hj
     cases hx with
     | lp hz hb hl hc =>
       refine⟨_,?_,.lp hz hb hl hc⟩;unfold wW;simp only[qAE ha,hs];rw[if_pos (by simp;omega)];simp[zOW]
    ·cases h
   ·cases h
  ·cases h
 ·cases h
theorem qVV (hx:VR P Z H M x v)(hi:VR P Z H M ix vi)(h:qD3 P t x ix=some y):∃ u,sH P t v vi=some u∧VR P Z H M y u:=by
 unfold qD3 at h;split at h
 ·rename_i n el cs kk i ha;have:=yK hi rfl;subst this;split at h
  ·rename_i s j hs hj;obtain⟨rfl,hlt⟩:=qCE hj
   cases hx with
   | agg hl hc =>
     rename_i vs;obtain⟨u,h1,h2⟩:=qGY (vs:=vs.toList) ⟨by simpa using hl,fun i x v a b=>hc i x v a (by simpa using b)⟩ h;refine⟨u,?_,h2⟩;unfold sH;simp only[qAE ha,hs];rw[if_pos (by simp;omega),qL5];simpa using h1
  ·cases h
 ·cases h
theorem qM7 {ix:Value}(h:sH P t v ix=some u):uF P o t v ix env H=some (.val u H):=by
 have hs:∀ s,sH P t (.string s) ix=none:=fun s=>by
  unfold sH
  cases P.underlying t with
  | none=>rfl
  | some d=>cases d <;> rfl
 unfold uF;split
 ·rw[hs] at h;cases h
 ·rw[h];rfl
theorem qNJ (hx:VR P Z H M x v)(h:cB x i=some y):∃ u,fE v i H=some (.val u H)∧VR P Z H M y u:=by
 unfold cB at h;split at h
 ·rename_i cs;split at h
  ·rename_i z hz
   cases hn:pnt z with
   | false=>rw[hn] at h;cases h
   | true =>
     rw[hn] at h;cases h
     cases hx with
     | tup hl hc =>
       rename_i vs;rw[qG] at hz;have hlt:=(zM6.1 hz).1;have hv:vs[i]?=some (vs[i]'(by rw[<-hl];exact hlt)):=zNG _;have hr:=hc i _ _ hz hv;refine⟨_,?_,hr⟩;have:vs.toList[i]?=some (vs[i]'(by rw[<-hl];exact hlt)):=by simp
       show wH H (zJ vs.toList i)=_;rw[qG,this];unfold wH;simp only[(hr.cells hn).2,cond_true]
  ·cases h
 ·cases h
theorem qML {r:Option zFH}{s:Option zFH}(h:qSH r=some x)(hs:∀ v H0,r=some (.val v H0)->s=some (.val v H)):∃ u,s=some (.val u H)∧VR P Z H M x u:=by
 unfold qSH at h;split at h
 ·rename_i v H0;cases h;exact⟨v,hs v H0 rfl,qBK v⟩
 ·cases h
theorem qTG {H':IH}(h:kG P o env H0=some (.val v H')):∀ H,kG P o env H=some (.val v H):=by
 obtain⟨w,h1,h2⟩:=Loose.dry o env H0 _ h;cases h1;exact h2
theorem qTV {op:Op}(he:kG P o env H=kG P (cop op ty) [] H)(h:qNG P op ty=some x):∃ u,kG P o env H=some (.val u H)∧VR P Z H M x u:=by
 unfold qNG at h;exact qML h fun v H0 hv=>by rw[he];exact qTG hv H
theorem qNY {mk:Operand->Op}(hx:VR P Z H M x v)(he:kG P o env H=kG P (cop (mk (.const v)) ty) [] H)(h:aY P mk x ty=some y):∃ u,kG P o env H=some (.val u H)∧VR P Z H M y u:=by
 unfold aY at h;split at h
 ·rename_i a ha;have:=yK hx ha;subst this;exact qTV he h
 ·cases h
theorem q2B (hx:VR P Z H (own m ph) x v)(h:isNil (P:=P) x ph=some b):∃ a n c,v=.slice a n c∧b=a.isNone:=by
 unfold isNil at h;split at h
 ·cases h;have:=yK hx rfl;exact⟨none,_,_,this,rfl⟩
 ·cases h
  cases hx with
  | f hx=>cases hx with
    | l=>exact⟨_,_,_,rfl,rfl⟩
 ·rename_i k t o n;split at h
  ·rename_i ob hl;split at h
   ·rename_i s hs
    cases hc:Nat.beq (t*s) ob.cs.length with
    | false=>rw[hc] at h;cases h
    | true =>
      rw[hc] at h;cases h;obtain⟨hO,h0⟩:=vV hx hl hs (zMZ hc)
      rcases hO with ⟨g1,rfl,_,_,rfl⟩ | ⟨g1,_,_,rfl⟩
      ·exact⟨none,_,_,rfl,by rw[g1];rfl⟩
      ·refine⟨_,_,_,rfl,?_⟩
       cases hg:ob.gr with
       | false=>rfl
       | true =>
         have:=g1 hg
         cases t with
         | zero=>exact absurd rfl this
         | succ t=>rfl
   ·cases h
  ·cases h
 ·cases h
theorem qTM (hx:VR P Z H M x v)(h:qP8 x=some b):(v=.nilFunc∧b=true)∨(∃ f a c,v=.func f a c∧b=false):=by
 unfold qP8 at h;split at h
 ·cases h;exact .inl ⟨yK hx rfl,rfl⟩
 ·cases h;exact .inr ⟨_,_,_,yK hx rfl,rfl⟩
 ·cases h;cases hx;exact .inr ⟨_,_,_,rfl,rfl⟩
 ·cases h
theorem qHN {op:BinOp}(hx:VR P Z H (own m ph) x vx)(hy:VR P Z H (own m ph) y vy)(h:qEB P t x y ph=some b) :
 yS P o .eql t vx vy env H=some (.val (.bool b) H)∧yS P o .neq t vx vy env H=some (.val (.bool !b) H):=by
 have key:asI vx=none∧eD P t vx vy=some b:=by
  unfold qEB at h;split at h
  ·rename_i n c;have:=yK hy rfl;subst this
   cases hc:(zR P t).isSome with
   | false=>rw[hc] at h;cases h
   | true =>
     rw[hc] at h;obtain⟨a,n',c',rfl,rfl⟩:=q2B hx h;obtain⟨el,he⟩:=zN2.1 hc;refine⟨rfl,?_⟩;have e1:uG (.slice a n' c') (.slice none n c)=some a.isNone:=by cases a <;> rfl
     have e2:uU P t (.slice a n' c')=true:=by unfold uU;rw[zS he]
     unfold eD;rw[e1];simp only[e2,cond_true]
  ·have:=yK hy rfl;subst this
   cases hc:qUE P t with
   | false=>rw[hc] at h;cases h
   | true =>
     rw[hc] at h;unfold qUE at hc;split at hc
     ·rename_i p1 p2 p3 hu
      rcases qTM hx h with ⟨rfl,rfl⟩ | ⟨f,a,c,rfl,rfl⟩
      ·refine⟨rfl,?_⟩;unfold eD uG uU;simp only[hu,cond_true]
      ·refine⟨rfl,?_⟩;unfold eD uG uU;simp only[hu,cond_true]
     ·cases hc
  ·cases h
 constructor
 ·unfold yS;rw[key.1];simp only[zFP,key.2]
 ·unfold yS;rw[key.1];simp only[zFP,key.2]
theorem qQB {op:BinOp}(hx:VR P Z H (own m ph) x vx)(hy:VR P Z H (own m ph) y vy)(h:qQ1 P t x y=some z) :
 (∃ u,yS P o .eql t vx vy env H=some (.val u H)∧VR P Z H (own m ph) z u)∧∃ u,yS P o .neq t vx vy env H=some (.val u H)∧VR P Z H (own m ph) z u:=by
 unfold qQ1 at h;split at h
 case h_2=>cases h
 rename_i el n c;have:=yK hy rfl;subst this
 cases hc:(zR P t).isSome with
 | false=>rw[hc] at h;cases h
 | true =>
   rw[hc] at h;cases h
   obtain⟨a,n',c',rfl⟩:∃ a n c,vx=.slice a n c:=by
    cases hx with
    | f hx=>cases hx with
      | nil=>exact⟨_,_,_,rfl⟩
      | l=>exact⟨_,_,_,rfl⟩
   obtain⟨el',he⟩:=zN2.1 hc;have e1:uG (.slice a n' c') (.slice none n c)=some a.isNone:=by cases a <;> rfl
   have e2:uU P t (.slice a n' c')=true:=by unfold uU;rw[zS he]
   have key:eD P t (.slice a n' c') (.slice none n c)=some a.isNone:=by
    unfold eD;rw[e1];simp only[e2,cond_true]
   constructor
   ·refine⟨.bool a.isNone,?_,.bq⟩;unfold yS;rw[show asI (Value.slice a n' c')=none from rfl];simp only[zFP,key]
   ·refine⟨.bool !a.isNone,?_,.bq⟩;unfold yS;rw[show asI (Value.slice a n' c')=none from rfl];simp only[zFP,key]
theorem qVS {o':Oper}{a b:Value}{env':Env}{H1:IH}(hd:∀ H,kG P o env H=kG P o' env' H)(h:yS P o' op t a b env' H0=some (.val v H1)):yS P o op t a b env H=some (.val v H):=by
 have e:∀ H,yS P o op t a b env H=yS P o' op t a b env' H:=fun H=>by
  simp only[yS,zF0,zFP,hd]
 rw[e];obtain⟨w,h1,h2⟩:=Loose.binOp (P:=P) o' op t a b env' H0 _ h;cases h1;exact h2 H
theorem q6C {d:Option Tmp}{t2:TypeId}{ox oy:Operand}{pos:String}{aft:Array Edge}{g:Option (Nat×Bool)}(hx:VR P Z H (own m ph) x (env.val ox))(hy:VR P Z H (own m ph) y (env.val oy))(h:jP P op t t2 x y ph=some z) :
 ∃ u,yS P ⟨d,.binOp op t ox oy t2,ty,pos,aft,g⟩ op t (env.val ox) (env.val oy) env H=some (.val u H)∧VR P Z H (own m ph) z u:=by
 unfold jP at h;split at h
 ·rename_i a b ha hb;have e1:=yK hx ha;have e2:=yK hy hb
  cases hi:q8U a with
  | true=>rw[hi] at h;cases h
  | false =>
    rw[hi] at h;refine qML h fun v H0 hv=>qVS (fun H=>?_) (by rw[e1,e2];exact hv)
    have hd:execOp env.val ⟨d,.binOp op t ox oy t2,ty,pos,aft,g⟩=execOp (Env.val []) (cop (.binOp op t (.const a) (.const b) t2)):=by
     show (do let x <- (do eqGuard op t ox oy (env.val ox) (env.val oy);binOp op t (env.val ox) (env.val oy));pure (Next.value x))=(do let x <- (do eqGuard op t (.const a) (.const b) a b;binOp op t a b);pure (Next.value x));rw[e1,e2]
     have:eqGuard op t ox oy a b=eqGuard op t (.const a) (.const b) a b:=by
      cases a <;> first | (cases hi;done) | rfl | (cases b <;> rfl)
     rw[this]
    unfold kG;rw[hd]
    have hpl:kP env.val (Op.binOp op t ox oy t2).operands.toList=kP (Env.val []) (cop (.binOp op t (.const a) (.const b) t2)).op.operands.toList:=by
     show [env.val ox,env.val oy]=[a,b];rw[e1,e2]
    simp only[hpl]
 ·split at h
  ·unfold uN at h;split at h
   ·rename_i b hb;cases h;exact⟨_,(qHN (op:=.eql) hx hy hb).1,kE rfl⟩
   ·exact (qQB (op:=.eql) hx hy h).1
  ·unfold uN at h;split at h
   ·rename_i b hb;cases h;exact⟨_,(qHN (op:=.eql) hx hy hb).2,kE rfl⟩
   ·exact (qQB (op:=.eql) hx hy h).2
  ·cases h
end Go.Idl
