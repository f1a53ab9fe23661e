/- Arguments that lie in the world are told by their types; from a function with a contract to the model's call. Conditions: none. -/
import Derived.Test.YtpnecffgnjijjaaGreatDoorSvB
import Derived.ChangeArms
import Derived.OpenShut
import Derived.WideShapes
import Derived.ChangeShapes
import Derived.Carry
set_option linter.all false
namespace Go.Sv
open Go.Idl
open Go.RowKit
variable [Gc]
variable {P:Program}{good:FuncId->Bool}{G:Nat->Bool}{k:Nat}{T:yY}{IT:List (FuncId×zFV)}
def ZA (H:IH):Nat->Prop:=fun b=>b < H.size
theorem _root_.Go.Idl.FR.up {H H':IH}(h:Old H H'){x:FV}{v:Value}(hx:FR (ZA H) H x v):FR (ZA H') H' x v:=hx.mono (fun b hb=>zM4 hb h.size) h.size fun b _ hb=>h.get b hb
theorem qVZ {H H':IH}(h:Old H H'){xs:List FV}{vs:List Value}(hx:FRL (ZA H) H xs vs):FRL (ZA H') H' xs vs:=⟨hx.len,fun i x v a b=>(hx.val i x v a b).up h⟩
theorem qAP {Z:Nat->Prop}{H:IH}:FRL Z H [] []:=⟨rfl,fun i x v h=>by simp at h⟩
theorem qE0 {Z:Nat->Prop}{H:IH}{xs ys:List FV}{vs ws:List Value}(a:FRL Z H xs vs)(b:FRL Z H ys ws):FRL Z H (xs++ys) (vs++ws):=by
 refine⟨by rw[zNK,zNK,a.len,b.len],fun i x v h1 h2=>?_⟩;by_cases hi:i < xs.length
 ·rw[zON hi] at h1;rw[zON (by rw[<-a.len];exact hi)] at h2;exact a.val i x v h1 h2
 ·rw[zOL (by omega)] at h1;rw[zOL (by have:=a.len;omega),<-a.len] at h2;exact b.val _ x v h1 h2
def Ty.wf:(t:Ty)->t.sem->Prop
 | .int k,x=>(Lit.int k x).wf=true
 | .bool,_=>True
 | .str,x=>x.size<=maxLen
 | .unit,_=>True
 | .list _ t,xs=>List.length xs<=maxLen∧∀ x∈(xs:List t.sem),t.wf x
 | .pair a b,x=>a.wf x.1∧b.wf x.2
 | .raw,_=>True
 | .ol _ _,_=>True
 | .nif,_=>True
 | .fnv _,_=>True
def wfL:(ts:List Ty)->TyL ts->Prop
 | [],_=>True
 | [t],x=>t.wf x
 | t::u::ts,x=>t.wf x.1∧wfL (u::ts) x.2
def q8K (c:TypeId->Ty->Bool):List (TypeId×Nat)->Nat->Ty->Bool
 | [],_,_=>false
 | [x],off,t=>Nat.beq x.2 off&&c x.1 t
 | x::y::l,off,.pair a b=>Nat.beq x.2 off&&(c x.1 a&&q8K c (y::l) (off+a.w) b)
 | _::_::_,_,_=>false
def qHZ (P:Program):Nat->TypeId->Ty->Bool
 | 0,_,_=>false
 | n+1,tid,t=>Nat.beq (P.cellsOf tid) t.w&&(match P.underlying tid with
   | some (.int k)=>decide (t=.int k)
   | some .bool=>decide (t=.bool)
   | some .string=>decide (t=.str)
   | some (.slice el)=>(match t with
     | .list el' u=>Nat.beq el el'&&(Nat.ble 1 u.w&&qHZ P n el u)
     | _=>false)
   | some (.struct fs)=>q8K (qHZ P n) (fs.toList.map fun f=>(f.type,f.offset)) 0 t
   | some (.array k el)=>q8K (qHZ P n) ((List.range k).map fun i=>(el,i*P.cellsOf el)) 0 t
   | _=>false)
theorem qFE {n:Nat}{tid:TypeId}{t:Ty}(h:qHZ P n tid t=true):P.cellsOf tid=t.w:=by
 cases n with
 | zero=>cases h
 | succ n =>
   unfold qHZ at h;simp only[zMY] at h;exact zMZ h.1
def Adds (P:Program)(w:World)(t:Ty)(cs:List Value):Prop:=∀ (f:Inj) (H:IH),Rel P f H w->pE f ->
 ∃ (s:t.sem) (f':Inj) (H':IH) (us:List Value),Rel P f' H' w∧f.le f'∧pE f'∧Old H H'∧qE P f' us cs∧FRL (ZA H') H' (t.cells s) us∧t.wf s
variable {w:World}
theorem qTQ {a b:Ty}{cs ds:List Value}(ha:Adds P w a cs)(hb:Adds P w b ds):Adds P w (.pair a b) (cs++ds):=by
 intro f H hR hro;obtain⟨s1,f1,H1,us1,a1,a2,a3,a4,a5,a6,a7⟩:=ha f H hR hro;obtain⟨s2,f2,H2,us2,b1,b2,b3,b4,b5,b6,b7⟩:=hb f1 H1 a1 a3;exact⟨(s1,s2),f2,H2,us1++us2,b1,Inj.le_trans a2 b2,b3,a4.trans b4,(a5.mono b2).append b5,qE0 (qVZ b4 a6) b6,a7,b7⟩
theorem o7 {t:Ty}{v:Value}(s:t.sem)(hc:t.cells s=[.v v])(hp:yF v=true)(h1:oneCell v=true)(hw:t.wf s):Adds P w t [v]:=by
 intro f H hR hro;exact⟨s,f,H,[v],hR,f.le_refl,hro,.refl H,.cons (.base v hp) .nil,by rw[hc];exact .cons (.v hp h1) qAP,hw⟩
theorem o9 {cs:List Value}{c:TypeId->Ty->Bool}:∀ (l:List (TypeId×Nat)) (off:Nat) (t:Ty),q8K c l off t=true ->
 (∀ p∈l,∀ u,c p.1 u=true->u.w=P.cellsOf p.1∧Adds P w u ((cs.drop p.2).take (P.cellsOf p.1)))->Adds P w t ((cs.drop off).take t.w)
 | [],off,t,h,_=>by cases h
 | [x],off,t,h,hp=>by
   simp only[q8K,zMY] at h;obtain⟨h1,h2⟩:=hp x (by simp) t h.2;have e:x.2=off:=zMZ h.1;rw[e,<-h1] at h2;exact h2
 | x::y::l,off,.pair a b,h,hp=>by
   simp only[q8K,zMY] at h;obtain⟨h1,h2⟩:=hp x (by simp) a h.2.1;have e:x.2=off:=zMZ h.1;rw[e,<-h1] at h2;have h3:=o9 (y::l) (off+a.w) b h.2.2 fun p hpm=>hp p (by simp at hpm ⊢;exact .inr hpm)
   have:=qTQ h2 h3;show Adds P w (.pair a b) ((cs.drop off).take (a.w+b.w));rw[List.take_add,zQT];exact this
 | _::_::_,_,.int _,h,_=>by cases h
 | _::_::_,_,.bool,h,_=>by cases h
 | _::_::_,_,.str,h,_=>by cases h
 | _::_::_,_,.unit,h,_=>by cases h
 | _::_::_,_,.list _ _,h,_=>by cases h
theorem pQ {α:Type}(g:Nat->List α)(n:Nat):(List.range (n+1)).flatMap g=(List.range n).flatMap g++g n:=by
 rw[List.range_succ,zP7];simp
theorem qK6 {t:Ty}(g:Nat->List Value):∀ (n:Nat),(∀ i,i < n->Adds P w t (g i))->∀ {f:Inj} {H:IH},Rel P f H w->pE f ->
 ∃ (xs:List t.sem) (f':Inj) (H':IH) (us:List Value),Rel P f' H' w∧f.le f'∧pE f'∧Old H H'∧xs.length=n∧qE P f' us ((List.range n).flatMap g)∧FRL (ZA H') H' (xs.flatMap t.cells) us∧∀ x∈xs,t.wf x
 | 0,_,f,H,hR,hro=>⟨[],f,H,[],hR,f.le_refl,hro,.refl H,rfl,.nil,qAP,fun x h=>by cases h⟩
 | n+1,hg,f,H,hR,hro=>by
   obtain⟨xs,f1,H1,us,a1,a2,a3,a4,a5,a6,a7,a8⟩:=qK6 g n (fun i hi=>hg i (by omega)) hR hro;obtain⟨s,f2,H2,us2,b1,b2,b3,b4,b5,b6,b7⟩:=hg n (by omega) f1 H1 a1 a3;refine⟨xs++[s],f2,H2,us++us2,b1,Inj.le_trans a2 b2,b3,a4.trans b4,by simp[a5],?_,?_,?_⟩
   ·rw[pQ];exact (a6.mono b2).append b5
   ·rw[zP7];have:[s].flatMap t.cells=t.cells s:=by simp
    rw[this];exact qE0 (qVZ b4 a7) b6
   ·intro x hx;rcases zNM.1 hx with hx | hx
    ·exact a8 x hx
    ·have:x=s:=by simpa using hx
     subst this;exact b7
theorem qA3 {α:Type}(g:Nat->List α)(c:Nat):∀ (n:Nat),(∀ i,i < n->(g i).length=c)->((List.range n).flatMap g).length=n*c
 | 0,_=>by simp
 | n+1,h=>by rw[pQ,zNK,qA3 g c n fun i hi=>h i (by omega),h n (by omega),zPS]
theorem qKF {α:Type}(V:Nat->Option α)(g:Nat->List α)(c:Nat):∀ (n:Nat),(∀ i,i < n->(g i).length=c∧∀ k,k < c->(g i)[k]?=V (i*c+k))->∀ i,i < n*c->((List.range n).flatMap g)[i]?=V i
 | 0,_,i,hi=>by omega
 | n+1,h,i,hi=>by
   have hl:=qA3 g c n fun i hi=>(h i (by omega)).1
   rw[pQ];by_cases hc:i < n*c
   ·rw[zON (by omega)];exact qKF V g c n (fun i hi=>h i (by omega)) i hc
   ·rw[zOL (by omega),hl];have:=(h n (by omega)).2 (i - n*c) (by rw[zPS] at hi;omega);rw[this]
    congr 1
    omega
theorem qRT {el:TypeId}{u:Ty}(h0:0 < w.heap.size){a:Addr}{len cap:Nat}(hlc:len<=cap)(hm:cap<=maxLen)(hw1:1<=u.w)(hcell:∀ i,i < cap*u.w->∃ v,w.cell? (a.add i)=some v)(g:Nat->List Value)
 (hg:∀ i,i < len->(g i).length=u.w∧(∀ k,k < u.w->(g i)[k]?=w.cell? (a.add (i*u.w+k)))∧Adds P w u (g i)):Adds P w (.list el u) [.slice (some a) len cap]:=by
 intro f H hR hro;by_cases hc:cap=0
 ·subst hc;have hl:len=0:=by omega
  subst hl;obtain⟨g1,g2⟩:=hR.zIQ hro h0;exact⟨[],_,_,[.slice (some ⟨H.size,0,none⟩) 0 0],g1,g2,hro.add rfl,.push _ _,.cons (.gh Inj.add_same (by simp)) .nil,.cons (.nil (fun h=>by cases h) fun x h=>by cases h;exact .inl rfl) qAP,⟨zO1 _,fun x h=>by cases h⟩⟩
 ·obtain⟨xs,f1,H1,us,a1,a2,a3,a4,a5,a6,a7,a8⟩:=qK6 g len (fun i hi=>(hg i hi).2.2) hR hro;have hfl:=qA3 g u.w len fun i hi=>(hg i hi).1
  have hfc:=qKF (fun i=>w.cell? (a.add i)) g u.w len fun i hi=>⟨(hg i hi).1,(hg i hi).2.1⟩
  have zLD:us.length=len*u.w:=by rw[a6.1,hfl]
  have hLC:len*u.w<=cap*u.w:=zN4 _ hlc;have hCp:0 < cap*u.w:=Nat.mul_pos (by omega) (by omega)
  obtain⟨e2,g1,g2,g3⟩:=q95 a1 a3 hLC hCp us zLD (fun i=>(w.cell? (a.add i)).getD undef) (fun i hi=>by
   obtain⟨v,hv⟩:=hcell i hi
   rw[hv];rfl) (fun i v hv=>by
   have hi:i < len*u.w:=by rw[<-zLD];exact (zM6.1 hv).1
   obtain⟨v',hv',hr⟩:=a6.get hv;rw[hfc i hi] at hv';simp only[hv',zO4]
   exact hr)
  refine⟨xs,_,_,[.slice (some ⟨H1.size,0,none⟩) len cap],g1,Inj.le_trans a2 g2,a3.add rfl,a4.trans (.push _ _),.cons ?_ .nil,?_,⟨by rw[show List.length xs=len from a5];omega,a8⟩⟩
  ·have:=zFB.sl (P:=P) (o:=0) (len:=len) (cap:=cap) (Inj.add_same (f:=f1) (b:=H1.size) (e:=⟨a.block,a.off,(match w.heap[a.block]? with | some (.cells c _ _)=>c.size | _=>0),true⟩))
   have ea:(⟨a.block,0+a.off,none⟩:Addr)=a:=by
    obtain⟨ab,ao,asp⟩:=a;simp only[zNY] at g3 ⊢;cases g3;rfl
   rw[ea] at this;exact this
  ·have hcells:(Ty.list el u).cells xs=[.l el len (xs.flatMap u.cells)]:=by
    show [FV.l el (List.length xs) (List.flatMap u.cells xs)]=_;rw[show List.length xs=len from a5]
   rw[hcells];refine .cons (.l (b:=H1.size) (o:=0) (vs:=us) (zNV _) (zNV _) hlc (.inl rfl) ?_ fun i x v hx hv=>(a7.val i x v hx hv).up (.push _ _)) qAP;refine xK jR (by rw[a7.len];omega) ?_;rw[zOH,zNR (by rw[a7.len];exact zM0 _)]
section
variable {Hh:Type}{enc:TypeId×Value->Hh}{held:Bool}
theorem q0B {el:TypeId}{u:Ty}:Adds P w (.list el u) [.slice none 0 0]:=by
 intro f H hR hro;exact⟨[],f,H,[.slice none 0 0],hR,f.le_refl,hro,.refl H,.cons (.base _ rfl) .nil,.cons (.nil (fun _=>rfl) fun x h=>by cases h) qAP,zO1 _,fun x h=>by cases h⟩
theorem rQ {base n:Nat}{a:Addr}{α:Type}{k:List Value->Option α}{y:α}(h:(w.cells? base a n).bind k=some y):∃ cs,cs.length=n∧(∀ i,i < n->w.cell? (a.add i)=cs[i]?)∧k cs=some y:=by
 obtain⟨cs,h1,h2⟩:=zOZ.1 h;obtain⟨_,h3,h4⟩:=World.cells?_some h1;exact⟨cs,h3,h4,h2⟩
theorem add_add {a:Addr}{i j:Nat}:(a.add i).add j=a.add (i+j):=by
 unfold Addr.add;by_cases h1:i=0 <;> by_cases h2:j=0 <;> simp[h1,h2,zOW]
theorem qGB (h0:0 < w.heap.size):∀ (n:Nat) (tid:TypeId) (t:Ty) (fuel:Nat) (cs:List Value) (x:DataW Hh×List MemPlace),qHZ P n tid t=true->DataW.trod enc P w 0 (fun _=>true) held fuel tid cs=some x->Adds P w t cs
 | 0,_,_,_,_,_,h,_=>by cases h
 | n+1,tid,t,fuel,cs,x,h,hx=>by
   have hw:=qFE h;unfold qHZ at h;simp only[zMY] at h;obtain⟨_,h⟩:=h;split at h
   ·rename_i k hk;have:=of_decide_eq_true h;subst this;obtain⟨z,rfl,_,hwf⟩:=DataW.trod_int hk hx;exact o7 z rfl rfl rfl hwf
   ·rename_i hk;have:=of_decide_eq_true h;subst this;obtain⟨z,rfl,_⟩:=DataW.trod_bool hk hx;exact o7 z rfl rfl rfl trivial
   ·rename_i hk;have:=of_decide_eq_true h;subst this;obtain⟨z,rfl,_,hs⟩:=DataW.trod_string hk hx;exact o7 z rfl rfl rfl hs
   ·rename_i el hk;split at h
    ·rename_i el' u _;simp only[zMY] at h;obtain⟨e1,e2,e3⟩:=h;have e1:el=el':=zMZ e1;have e2:1<=u.w:=zM9 e2;subst e1;have hwu:=qFE e3
     rcases DataW.trod_slice hk hx with ⟨rfl,_⟩ | ⟨a,len,cap,elems,rest,m,_,rfl,_,_,hlc,hcm,hel,hge,hgr,_⟩
     ·exact q0B
     ·rw[hwu] at hge hgr;obtain⟨hrl,hgr⟩:=hgr rfl
      have hA:∀ i,i < len->∃ ds,ds.length=u.w∧(∀ k,k < u.w->ds[k]?=w.cell? (a.add (i*u.w+k)))∧Adds P w u ds:=by
       intro i hi;have h1:=hge i hi;rw[zM2 (by omega)] at h1;obtain⟨ds,c1,c2,c3⟩:=rQ h1;exact⟨ds,c1,fun k hk=>by rw[<-add_add,c2 k hk],qGB h0 n el u m ds _ e3 c3⟩
      have hC:∀ i,i < cap*u.w->∃ v,w.cell? (a.add i)=some v:=by
       intro i hi;have hq:i / u.w < cap:=Nat.div_lt_of_lt_mul (by rw[Nat.mul_comm];exact hi);have hr:i % u.w < u.w:=Nat.mod_lt _ (by omega);have hdm:i / u.w*u.w+i % u.w=i:=by rw[Nat.mul_comm];exact Nat.div_add_mod i u.w
       have:∃ ds:List Value,ds.length=u.w∧(∀ k,k < u.w->w.cell? ((a.add (i / u.w*u.w)).add k)=ds[k]?):=by
        by_cases hq2:i / u.w < len
        ·have h1:=hge _ hq2;rw[zM2 (by omega)] at h1;obtain⟨ds,c1,c2,_⟩:=rQ h1;exact⟨ds,c1,c2⟩
        ·have h1:=hgr (i / u.w - len) (by omega);rw[zM2 (by omega),show len+(i / u.w - len)=i / u.w by omega] at h1;obtain⟨ds,c1,c2,_⟩:=rQ h1;exact⟨ds,c1,c2⟩
       obtain⟨ds,c1,c2⟩:=this;have c3:=c2 _ hr;rw[add_add,hdm,zM2 (by omega)] at c3;exact⟨_,c3⟩
      have hch:∃ g:Nat->List Value,∀ i,i < len->(g i).length=u.w∧(∀ k,k < u.w->(g i)[k]?=w.cell? (a.add (i*u.w+k)))∧Adds P w u (g i):=by
       refine⟨fun i=>if hi:i < len then Classical.choose (hA i hi) else [],fun i hi=>?_⟩;have:=Classical.choose_spec (hA i hi);simp only[dif_pos hi];exact this
      obtain⟨g,hg⟩:=hch;exact qRT h0 hlc hcm e2 hC g hg
    ·cases h
   ·rename_i fs hk;obtain⟨xs,m,_,_,hl,hxl,hp⟩:=DataW.trod_struct hk hx
    have:=o9 (P:=P) (w:=w) (cs:=cs) _ 0 t h fun p hp' u hu=>by
     refine⟨(qFE hu).symm,?_⟩;obtain⟨fl,hfl,rfl⟩:=zNO.1 hp';obtain⟨i,hi⟩:=List.getElem?_of_mem hfl;have hi':fs[i]?=some fl:=by simpa using hi
     have h1:=hp i fl hi';have hil:i < xs.length:=by rw[hxl];exact (zNB.1 hi').1
     rw[zM2 hil] at h1;exact qGB h0 n fl.type u m _ _ hu h1
    rwa [zOH,zNR (by omega)] at this
   ·rename_i k el hk;obtain⟨xs,m,_,_,hl,hxl,hp⟩:=DataW.trod_array hk hx
    have:=o9 (P:=P) (w:=w) (cs:=cs) _ 0 t h fun p hp' u hu=>by
     refine⟨(qFE hu).symm,?_⟩;obtain⟨i,hi,rfl⟩:=zNO.1 hp';have hi':=zPH.1 hi;have h1:=hp i hi';rw[zM2 (by omega)] at h1;exact qGB h0 n el u m _ _ hu h1
    rwa [zOH,zNR (by omega)] at this
   ·cases h
def q6E (P:Program)(tid:TypeId)(t:Ty):Bool:=match P.underlying tid with
 | some (.struct _) | some (.array _ _)=>!t.one
 | some (.slice _) | some .bool | some (.int _) | some .string=>t.one
 | _=>false
def q15 (P:Program)(n:Nat):List TypeId->List Ty->Bool
 | [],[]=>true
 | i::is,t::ts=>qHZ P n i t&&(q6E P i t&&q15 P n is ts)
 | _,_=>false
theorem zCS {Z:Nat->Prop}{H:IH}{M:Nat->Option (Nat×PO)}{f:Inj}{t:Ty}{s:t.sem}{tid:TypeId}{v:Value}{us:List Value}{r:Reach}{base:Nat}(ht:q6E P tid t=true)(hv:Value.okWide P w r base tid v)
 (hu:qE P f us v.cells.toList) (hf:FRL Z H (t.cells s) us):∃ u,zFB P f u v∧VR P Z H M (t.pv s) u:=by
 unfold q6E at ht
 have one:t.one=true->(∃ x,v.cells=#[x]∧v=x)->∃ u,zFB P f u v∧VR P Z H M (t.pv s) u:=by
  rintro h1 ⟨x,hx,rfl⟩;rw[hx] at hu;rw[Ty.cells_one h1] at hf;obtain⟨u,us',rfl,hu1,hu2⟩:=hf.zFD;obtain⟨v',l',e,hv1,_⟩:=hu.zFD;cases e;refine⟨u,hv1,?_⟩;unfold Ty.pv;rw[h1];exact .f hu1
 have many:t.one=false->(∃ cs,v=.agg cs)->∃ u,zFB P f u v∧VR P Z H M (t.pv s) u:=by
  rintro h1 ⟨cs,rfl⟩;have hu:qE P f us cs.toList:=hu;refine⟨.agg us.toArray,.agg (by simpa using hu.1) fun i a b ha hb=>hu.2 i a b (by simpa using ha) (by simpa using hb),?_⟩;unfold Ty.pv;rw[h1];refine .agg (by simp[hf.len]) fun i x u hx hu'=>?_
  rw[zNC] at hx
  cases hc:(t.cells s)[i]? with
  | none=>rw[hc] at hx;cases hx
  | some y =>
    rw[hc] at hx;cases hx;exact .f (hf.val i y u hc (by simpa using hu'))
 split at ht
 ·rename_i fs hk;obtain⟨cs,rfl,_⟩:=WideShapes.okWide_struct hk hv;exact many (by simpa using ht) ⟨cs,rfl⟩
 ·rename_i k el hk;have hv':=hv;unfold Value.okWide at hv';rw[hk] at hv';obtain⟨cs,rfl,_⟩:=hv';exact many (by simpa using ht) ⟨cs,rfl⟩
 ·rename_i el hk;obtain⟨a,l,c,rfl⟩:=WideShapes.okWide_slice hk hv;exact one ht ⟨_,rfl,rfl⟩
 ·rename_i hk;obtain⟨a,rfl⟩:=WideShapes.okWide_bool hk hv;exact one ht ⟨_,rfl,rfl⟩
 ·rename_i k hk;obtain⟨a,rfl⟩:=WideShapes.okWide_int hk hv;exact one ht ⟨_,rfl,rfl⟩
 ·rename_i hk;obtain⟨a,rfl⟩:=WideShapes.okWide_string hk hv;exact one ht ⟨_,rfl,rfl⟩
 ·cases ht
theorem q9S {H H':IH}(h:Old H H'){t:Ty}{s:t.sem}{u:Value}(hx:VR P (ZA H) H (fun _=>none) (t.pv s) u):VR P (ZA H') H' (fun _=>none) (t.pv s) u:=by
 unfold Ty.pv at hx ⊢
 cases h1:t.one with
 | true=>rw[h1] at hx;cases hx with
   | f hx=>exact .f (hx.up h)
 | false =>
   rw[h1] at hx;obtain⟨vs,rfl,h2⟩:=VR.zHT hx;have:=(qVZ h (qBR h2)).map (P:=P) (M:=fun _=>none);exact .agg (by simpa using this.len) fun i x v a b=>this.val i x v a (by simpa using b)
theorem qIH (h0:0 < w.heap.size){n:Nat}{r:Reach}{base:Nat}:∀ (is:List TypeId) (ts:List Ty) (vs:List Value) (ds:List (DataW Hh)) (ps:List MemPlace),q15 P n is ts=true->DataW.TrodAll enc P w 0 (fun _=>true) held is vs ds ps ->
 (∀ (j:Nat) i v,is[j]?=some i->vs[j]?=some v->Value.okWide P w r base i v)->∀ {f:Inj} {H:IH},Rel P f H w->pE f ->
 ∃ (x:TyL ts) (f':Inj) (H':IH) (us:List Value),Rel P f' H' w∧f.le f'∧pE f'∧Old H H'∧qE P f' us vs∧VRL P (ZA H') H' (fun _=>none) (pvL ts x) us∧wfL ts x
 | [],[],vs,ds,ps,_,htr,_,f,H,hR,hro=>by
   cases vs with
   | nil=>exact⟨(),f,H,[],hR,f.le_refl,hro,.refl H,.nil,.nil,trivial⟩
   | cons=>cases ds <;> exact htr.elim
 | [],_::_,_,_,_,h,_,_,_,_,_,_=>by cases h
 | _::_,[],_,_,_,h,_,_,_,_,_,_=>by cases h
 | i::is,t::ts,vs,ds,ps,h,htr,hok,f,H,hR,hro=>by
   cases vs with
   | nil=>cases ds <;> exact htr.elim
   | cons v vs =>
     cases ds with
     | nil=>exact htr.elim
     | cons d ds =>
       obtain⟨p,q,⟨fuel,h1⟩,h2,rfl⟩:=htr;simp only[q15,zMY] at h;obtain⟨c1,c2,c3⟩:=h;obtain⟨s,f1,H1,us1,a1,a2,a3,a4,a5,a6,a7⟩:=qGB (P:=P) h0 n i t fuel _ _ c1 h1 f H hR hro;obtain⟨u,e1,e2⟩:=zCS (M:=fun _=>none) c2 (hok 0 i v rfl rfl) a5 a6;obtain⟨x,f2,H2,us2,b1,b2,b3,b4,b5,b6,b7⟩:=qIH h0 (base:=base) (r:=r) is ts vs ds q c3 h2 (fun j i v hi hv=>hok (j+1) i v (by simpa using hi) (by simpa using hv)) a1 a3
       cases ts with
       | nil =>
         refine⟨s,f2,H2,u::us2,b1,Inj.le_trans a2 b2,b3,a4.trans b4,.cons (e1.mono b2) b5,?_,a7⟩;have:=b6.len
         cases us2 with
         | nil=>exact .cons (q9S b4 e2) .nil
         | cons=>cases this
       | cons t2 ts=>exact⟨(s,x),f2,H2,u::us2,b1,Inj.le_trans a2 b2,b3,a4.trans b4,.cons (e1.mono b2) b5,.cons (q9S b4 e2) b6,a7,b7⟩
theorem zGQ {sp:Nat->Bool}{base:Nat}:∀ {is:List TypeId} {vs:List Value} {ds:List (DataW Hh)} {ps:List MemPlace},DataW.TrodAll enc P w base sp held is vs ds ps->ds.length=is.length
 | [],vs,ds,ps,h=>by
   cases vs with
   | nil=>cases ds with
     | nil=>rfl
     | cons=>exact h.elim
   | cons=>cases ds <;> exact h.elim
 | i::is,vs,ds,ps,h=>by
   cases vs with
   | nil=>cases ds <;> exact h.elim
   | cons v vs=>cases ds with
     | nil=>exact h.elim
     | cons d ds =>
       obtain⟨p,q,h1,h2,rfl⟩:=h;simp[zGQ h2]
theorem zHA (hl:laidOutB P=true){W W':World}(hb:Below W.heap.size W W'):∀ (is:List TypeId) (vs:List Value) (ds:List (DataW Hh)) (ps:List MemPlace),(∀ i∈is,P.readableRec i=true∧i < P.types.size)->DataW.TrodAll enc P W 0 (fun _=>true) true is vs ds ps->(∀ x∈ps,x.block < W.heap.size) ->
 DataW.TrodAll enc P W' 0 (fun b=>decide (b < W.heap.size)) true is vs ds ps
 | [],vs,ds,ps,_,h,_=>by
   cases vs with
   | nil=>cases ds with
     | nil=>exact h
     | cons=>exact h.elim
   | cons=>cases ds <;> exact h.elim
 | i::is,vs,ds,ps,hi,h,hlt=>by
   cases vs with
   | nil=>cases ds <;> exact h.elim
   | cons v vs=>cases ds with
     | nil=>exact h.elim
     | cons d ds =>
       obtain⟨p,q,h1,h2,rfl⟩:=h;exact⟨p,q,Below.trod hl (hi i (by simp)).1 (hi i (by simp)).2 h1 hb (fun x hx=>hlt x (by simp[hx])),zHA hl hb is vs ds q (fun j hj=>hi j (by simp[hj])) h2 (fun x hx=>hlt x (by simp[hx])),rfl⟩
end
def zAV (P:Program)(is:List TypeId):Bool:=is.all fun i=>P.readableRec i&&Nat.blt i P.types.size
theorem zIC {is:List TypeId}(h:zAV P is=true):∀ i∈is,P.readableRec i=true∧i < P.types.size:=fun i hi=>by
 have:=zM1.1 h i hi;simp only[zMY] at this;exact⟨this.1,zM9 this.2⟩
theorem Lib.zMI {gl:List (Nat×Obj)}(L:Lib P good (qW k) T IT)(hgc:∀ g o,Gc.gc g=some o->g < k∧(q8Z gl k).get g=some o){g:FuncId}{ats:List Ty}{F:TyL ats->Option Bool}(hs:slT g T=some ⟨ats,[Ty.bool],F⟩)(hF:∀ x,wfL ats x->F x=some true){Hh:Type}{enc:TypeId×Value->Hh}{W:World}(hR0:Rel P (eX k) (q8Z gl k) W)(h0:0 < W.heap.size)
 {n:Nat} {r:Reach} {base:Nat} {is:List TypeId} {vs:Array Value} {ds:List (DataW Hh)} {ps:List MemPlace} (hc:q15 P n is ats=true) (htr:DataW.TrodAll enc P W 0 (fun _=>true) true is vs.toList ds ps) (hok:∀ (j:Nat) i v,is[j]?=some i->vs[j]?=some v->Value.okWide P W r base i v) :
 Calls P g vs W fun e W'=>e=.returned (.bool true)∧Below W.heap.size W W':=by
 have zMJ:pE (eX k):=fun b e hb=>by rw[(yT hb).2]
 obtain⟨x,f2,H2,us,b1,b2,b3,b4,b5,b6,b7⟩:=qIH h0 is ats vs.toList ds ps hc htr (fun j i v hi hv=>hok j i v hi (by simpa using hv)) hR0 zMJ;have hG:uY (qW k) f2:=(qJT k).mono b2;have hb:H2.base<=H2.size:=by rw[b4.base];exact zO1 _
 obtain⟨nat,tab,s,ht,_⟩:=L
 letI:Yl:=⟨0⟩
 have h:tab g (pvL ats x)=Option.map (kY [Ty.bool]) (F x):=ht g _ hs x;rw[hF x b7] at h;obtain⟨_,_,kk,hkk,zKC⟩:=s.t g _ _ h;have zKF:CallsIn Fence.wide 0 P g vs W _:=s.s.spec g kk hkk us vs.toList H2 f2 W _ b1 hG b5 (zKC (ZA H2) H2 us b6 (fun b h=>h) hb (fun g o hg=>⟨zM4 (hgc g o hg).1 b4.size,(b4.get g (hgc g o hg).1).trans (hgc g o hg).2⟩) (fun r=>Old H2 r.2∧∃ Z':Nat->Prop,VR P Z' r.2 (fun _=>none) (kY [Ty.bool] true) r.1) fun v H' Z' a1 a2 a3 a4 a5=>⟨a1,Z',a5⟩);refine (callsIn_wide.1 zKF).mono ?_;rintro e w' ⟨v',r,f2',rfl,⟨hold,Z',hr⟩,k1,k2,k3⟩;have hrb:r.1=.bool true:=yK hr rfl;rw[hrb] at k3;refine⟨by rw[k3.zHG],k2.out.1,k2.out.2.2,k2.out.2.1,k2.size,fun x hx=>(k2.keep x hx ?_).2⟩;rintro⟨b,e,hb,_,zLE⟩;rw[b3 b e hb] at zLE;cases zLE
end Go.Sv
