/- A symbolic run, part one. Conditions: none. -/
import Derived.Test.YtkmfigmiehpcpaaGreatDoorPur23
set_option linter.all false
namespace Go.Sv
open Go.Idl
variable {el:TypeId}{j n off:Nat}{k:IntKind}
class Yl where
 l:Nat
variable [Gc]
variable {P:Program}{Z Z':Nat->Prop}{H:IH}{M:Nat->Option (Nat×PO)}
inductive Ty where
 | int (k:IntKind)
 | bool
 | str
 | unit
 | list (el:TypeId) (t:Ty)
 | pair (a b:Ty)
 | raw
 | ol (el:TypeId) (k:IntKind)
 | nif deriving DecidableEq
@[reducible] def Ty.sem:Ty->Type
  | .int _=>Int
  | .bool=>Bool
  | .str=>ByteArray
  | .unit=>Unit
  | .list _ t=>List t.sem
  | .pair a b=>a.sem×b.sem
  | .raw=>List (Value×Value)
  | .ol _ _=>List Int
  | .nif=>Unit
def dR (l:List (Value×Value)):List FV:=List.flatMap (fun p=>[.v p.1,.v p.2]) l
def fvo (el:TypeId)(k:IntKind):List Int->FV
 | []=>.v (.slice none 0 0)
 | x::xs=>.l el (xs.length+1) (List.flatMap (fun i=>[FV.v (.int k i)]) (x::xs))
def Ty.cells:(t:Ty)->t.sem->List FV
 | .int k,x=>[.v (.int k x)]
 | .bool,x=>[.v (.bool x)]
 | .str,x=>[.v (.string x)]
 | .unit,_=>[]
 | .list el t,xs=>[.l el (List.length xs) (List.flatMap t.cells xs)]
 | .pair a b,x=>a.cells x.1++b.cells x.2
 | .raw,xs=>[.l 1000000001 (List.length xs) (dR xs)]
 | .ol el k,xs=>[fvo el k xs]
 | .nif,_=>[.v .nilIface]
def Ty.w:Ty->Nat
 | .int _ | .bool | .str | .list _ _ | .raw | .ol _ _ | .nif=>1
 | .unit=>0
 | .pair a b=>a.w+b.w
def Ty.nol:Ty->Bool
 | .ol _ _=>false
 | .pair a b=>a.nol&&b.nol
 | _=>true
def Ty.one:Ty->Bool
 | .unit=>false
 | .pair _ _=>false
 | _=>true
def Ty.fv:(t:Ty)->t.sem->FV
 | .int k,x=>.v (.int k x)
 | .bool,x=>.v (.bool x)
 | .str,x=>.v (.string x)
 | .list el t,xs=>.l el (List.length xs) (List.flatMap t.cells xs)
 | .raw,xs=>.l 1000000001 (List.length xs) (dR xs)
 | .ol el k,xs=>fvo el k xs
 | .nif,_=>.v .nilIface
 | _,_=>.v undef
theorem Ty.cells_one:∀ {t:Ty} {x:t.sem},t.one=true->t.cells x=[t.fv x]
 | .int _,_,_=>rfl
 | .bool,_,_=>rfl
 | .str,_,_=>rfl
 | .list _ _,_,_=>rfl
 | .raw,_,_=>rfl
 | .ol _ _,_,_=>rfl
 | .nif,_,_=>rfl
 | .unit,_,h=>by cases h
 | .pair _ _,_,h=>by cases h
theorem Ty.zEN:∀ (t:Ty) (x:t.sem),(t.cells x).length=t.w
 | .int _,_=>rfl
 | .bool,_=>rfl
 | .str,_=>rfl
 | .list _ _,_=>rfl
 | .raw,_=>rfl
 | .ol _ _,_=>rfl
 | .nif,_=>rfl
 | .unit,_=>rfl
 | .pair a b,x=>by
   show (a.cells x.1++b.cells x.2).length=a.w+b.w;rw[zOG,a.zEN,b.zEN]
theorem zX {t:Ty}:∀ (xs:List t.sem),(xs.flatMap t.cells).length=xs.length*t.w
 | []=>by simp
 | x::xs=>by rw[zOK,zOG,t.zEN,zX xs,zOI,zQN,zQM]
theorem gK {t:Ty}:∀ (xs:List t.sem) (j:Nat),(xs.flatMap t.cells).drop (j*t.w)=(xs.drop j).flatMap t.cells
 | xs,0=>by simp
 | [],j+1=>by simp
 | x::xs,j+1=>by
   rw[zOK,List.drop_succ_cons,<-gK xs j,zQN,zQM,<-zRK]
   congr 1
   rw[List.drop_append_of_le_length (by rw[t.zEN];exact zNV _),zRO (by rw[t.zEN];exact zNV _),zR3]
theorem u6 {t:Ty}:∀ (xs:List t.sem) (j:Nat),(xs.flatMap t.cells).take (j*t.w)=(xs.take j).flatMap t.cells
 | xs,0=>by simp
 | [],j+1=>by simp
 | x::xs,j+1=>by
   rw[zOK,zPV,zOK,<-u6 xs j,zQN,zQM,List.take_append,t.zEN,zRL,zOL (by rw[t.zEN];omega)]
theorem qXE {t:Ty}{xs:List t.sem}{x:t.sem}(h:xs[j]?=some x):((xs.flatMap t.cells).drop (j*t.w)).take t.w=t.cells x:=by
 rw[gK]
 have hj:=(zN0.1 h)
 obtain⟨hl,hx⟩:=hj;rw[zQU hl,hx,zOK,List.take_append_of_le_length (by rw[t.zEN];exact zNV _),zOL (by rw[t.zEN];exact zNV _)]
theorem qIQ {t:Ty}{xs:List t.sem}{x:t.sem}(h:xs[j]?=some x)(hn:off+n<=t.w):((xs.flatMap t.cells).drop (j*t.w+off)).take n=((t.cells x).drop off).take n:=by
 rw[<-qXE h,List.drop_take,zRK,zQ4,zPK (by omega)]
theorem flat_get {t:Ty}{xs:List t.sem}{x:t.sem}(h:xs[j]?=some x)(hn:off < t.w):(xs.flatMap t.cells)[j*t.w+off]?=(t.cells x)[off]?:=by
 rw[<-qXE h,zPJ,if_pos hn,zPL]
theorem qFQ {t:Ty}{xs:List t.sem}{x:t.sem}(h:xs[j]?=some x)(hn:off+n<=t.w):j*t.w+off+n<=(xs.flatMap t.cells).length:=by
 have hl:=(zN0.1 h).1;rw[zX];have:(j+1)*t.w<=xs.length*t.w:=zOW _ hl;rw[zQN] at this;omega
theorem qJY:∀ (xs ys:List (Value×Value)),dR xs=dR ys->xs=ys
 | [],[],_=>rfl
 | [],y::ys,h=>by cases h
 | x::xs,[],h=>by cases h
 | x::xs,y::ys,h=>by
   have h:FV.v x.1::FV.v x.2::dR xs=FV.v y.1::FV.v y.2::dR ys:=h;injection h with h1 h2;injection h2 with h2 h3;injection h1 with h1;injection h2 with h2;rw[qJY xs ys h3,Prod.ext h1 h2]
theorem qBP:∀ (xs:List (Value×Value)),(dR xs).length=2*xs.length
 | []=>rfl
 | x::xs=>by
   show (dR xs).length+2=_;rw[qBP xs,zOI];omega
theorem qPT:∀ (xs ys:List (Value×Value)) (vs:List Value),FRL Z H (dR xs) vs->FRL Z' H (dR ys) vs->xs=ys
 | [],[],_,_,_=>rfl
 | [],y::ys,vs,a,b=>by have:=a.len;have:=b.len;simp[dR] at *;omega
 | x::xs,[],vs,a,b=>by have:=a.len;have:=b.len;simp[dR] at *;omega
 | x::xs,y::ys,vs,a,b=>by
   have a:FRL Z H (FV.v x.1::FV.v x.2::dR xs) vs:=a;have b:FRL Z' H (FV.v y.1::FV.v y.2::dR ys) vs:=b;obtain⟨v,vs',rfl,a1,a2⟩:=a.zEH;obtain⟨v',vs2,e,b1,b2⟩:=b.zEH;cases e;obtain⟨w,vs3,rfl,a3,a4⟩:=a2.zEH;obtain⟨w',vs4,e,b3,b4⟩:=b2.zEH;cases e;have e1:=(qK7 a1).symm.trans (qK7 b1);have e2:=(qK7 a3).symm.trans (qK7 b3);rw[qPT xs ys _ a4 b4,Prod.ext e1 e2]
theorem qNX {k:IntKind}:∀ (xs ys:List Int),List.flatMap (fun i=>[FV.v (.int k i)]) xs=List.flatMap (fun i=>[FV.v (.int k i)]) ys->xs=ys
 | [],[],_=>rfl
 | [],y::ys,h=>by simp at h
 | x::xs,[],h=>by simp at h
 | x::xs,y::ys,h=>by
   have h:FV.v (.int k x)::List.flatMap (fun i=>[FV.v (.int k i)]) xs=FV.v (.int k y)::List.flatMap (fun i=>[FV.v (.int k i)]) ys:=h;injection h with h1 h2;injection h1 with h1;injection h1 with _ h1;rw[h1,qNX xs ys h2]
theorem qQE (xs:List Int):(List.flatMap (fun i=>[FV.v (.int k i)]) xs).length=xs.length:=by
 induction xs with
 | nil=>rfl
 | cons x xs ih=>rw[zOK,zOG,ih];simp;omega
theorem qIH {k:IntKind}:∀ (xs ys:List Int) (vs:List Value),FRL Z H (List.flatMap (fun i=>[FV.v (.int k i)]) xs) vs->FRL Z' H (List.flatMap (fun i=>[FV.v (.int k i)]) ys) vs->xs=ys
 | [],[],_,_,_=>rfl
 | [],y::ys,vs,a,b=>by have:=a.len;have:=b.len;simp at *;omega
 | x::xs,[],vs,a,b=>by have:=a.len;have:=b.len;simp at *;omega
 | x::xs,y::ys,vs,a,b=>by
   have a:FRL Z H (FV.v (.int k x)::List.flatMap (fun i=>[FV.v (.int k i)]) xs) vs:=a;have b:FRL Z' H (FV.v (.int k y)::List.flatMap (fun i=>[FV.v (.int k i)]) ys) vs:=b;obtain⟨v,vs',rfl,a1,a2⟩:=a.zEH;obtain⟨v',vs2,e,b1,b2⟩:=b.zEH;cases e;have e1:=(qK7 a1).symm.trans (qK7 b1);injection e1 with _ e1;rw[qIH xs ys _ a2 b2,e1]
theorem q39:∀ {xs ys:List Int},fvo el k xs=fvo el k ys->xs=ys
 | [],[],_=>rfl
 | [],_::_,h=>by cases h
 | _::_,[],h=>by cases h
 | x::xs,y::ys,h=>by
   injection h with _ _ h;exact qNX _ _ h
theorem q19 {v:Value}:∀ {xs ys:List Int},FR Z H (fvo el k xs) v->FR Z' H (fvo el k ys) v->xs=ys
 | [],[],_,_=>rfl
 | [],_::_,a,b=>by have:=qK7 a;subst this;cases b
 | _::_,[],a,b=>by have:=qK7 b;subst this;cases a
 | x::xs,y::ys,a,b=>by
   obtain⟨h1,ws,ws',h2,h3,h4⟩:=oO a b;have:=h4 (by rw[qQE,qQE];simpa using h1);subst this;exact qIH _ _ ws h2 h3
theorem Ty.inj:∀ (t:Ty) (x y:t.sem),t.cells x=t.cells y->x=y
 | .int _,x,y,h=>by injection h with h;injection h with h;injection h
 | .bool,x,y,h=>by injection h with h;injection h with h;injection h
 | .str,x,y,h=>by injection h with h;injection h with h;injection h
 | .unit,_,_,_=>rfl
 | .nif,_,_,_=>rfl
 | .ol el k,xs,ys,h=>by
   injection h with h;exact q39 h
 | .raw,xs,ys,h=>by
   injection h with h;injection h with _ h1 h2;exact qJY _ _ h2
 | .pair a b,x,y,h=>by
   have:=List.append_inj (show a.cells x.1++b.cells x.2=a.cells y.1++b.cells y.2 from h) (by rw[a.zEN,a.zEN]);exact Prod.ext (a.inj _ _ this.1) (b.inj _ _ this.2)
 | .list el t,xs,ys,h=>by
   injection h with h;injection h with _ h1 h2;exact go t xs ys h1 h2
where
 go (t:Ty):∀ (xs ys:List t.sem),xs.length=ys.length->xs.flatMap t.cells=ys.flatMap t.cells->xs=ys
 | [],[],_,_=>rfl
 | [],y::ys,e,h=>by cases e
 | x::xs,[],e,h=>by cases e
 | x::xs,y::ys,e,h=>by
   rw[zOK,zOK] at h;have:=List.append_inj h (by rw[t.zEN,t.zEN]);rw[t.inj x y this.1,go t xs ys (by simpa using e) this.2]
theorem Ty.uniq:∀ (t:Ty) {x y:t.sem} {vs:List Value},FRL Z H (t.cells x) vs->FRL Z' H (t.cells y) vs->x=y
 | .int k,x,y,vs,a,b=>by
   obtain⟨v,vs',rfl,a1,_⟩:=a.zEH;obtain⟨v',vs2,e,b1,_⟩:=b.zEH;cases e;have:=(qK7 a1).symm.trans (qK7 b1);injection this
 | .bool,x,y,vs,a,b=>by
   obtain⟨v,vs',rfl,a1,_⟩:=a.zEH;obtain⟨v',vs2,e,b1,_⟩:=b.zEH;cases e;have:=(qK7 a1).symm.trans (qK7 b1);injection this
 | .str,x,y,vs,a,b=>by
   obtain⟨v,vs',rfl,a1,_⟩:=a.zEH;obtain⟨v',vs2,e,b1,_⟩:=b.zEH;cases e;have:=(qK7 a1).symm.trans (qK7 b1);injection this
 | .unit,_,_,_,_,_=>rfl
 | .nif,_,_,_,_,_=>rfl
 | .ol el k,xs,ys,vs,a,b=>by
   obtain⟨v,vs',rfl,a1,_⟩:=a.zEH;obtain⟨v',vs2,e,b1,_⟩:=b.zEH;cases e;exact q19 a1 b1
 | .raw,xs,ys,vs,a,b=>by
   obtain⟨v,vs',rfl,a1,_⟩:=a.zEH;obtain⟨v',vs2,e,b1,_⟩:=b.zEH;cases e;obtain⟨h1,ws,ws',h2,h3,h4⟩:=oO a1 b1;have:=h4 (by rw[qBP,qBP,h1]);subst this;exact qPT xs ys ws h2 h3
 | .pair s t,x,y,vs,a,b=>by
   obtain⟨a1,a2⟩:=FRL.split (xs:=s.cells x.1) (ys:=t.cells x.2) a;obtain⟨b1,b2⟩:=FRL.split (xs:=s.cells y.1) (ys:=t.cells y.2) b;rw[s.zEN] at a1 a2 b1 b2;exact Prod.ext (s.uniq a1 b1) (t.uniq a2 b2)
 | .list el t,xs,ys,vs,a,b=>by
   obtain⟨v,vs',rfl,a1,_⟩:=a.zEH;obtain⟨v',vs2,e,b1,_⟩:=b.zEH;cases e;obtain⟨h1,ws,ws',h2,h3,h4⟩:=oO a1 b1;have:=h4 (by rw[zX,zX,h1]);subst this;exact go t xs ys ws h1 h2 h3
where
 go (t:Ty):∀ (xs ys:List t.sem) (vs:List Value),xs.length=ys.length->FRL Z H (xs.flatMap t.cells) vs->FRL Z' H (ys.flatMap t.cells) vs->xs=ys
 | [],[],_,_,_,_=>rfl
 | [],y::ys,vs,e,a,b=>by cases e
 | x::xs,[],vs,e,a,b=>by cases e
 | x::xs,y::ys,vs,e,a,b=>by
   rw[zOK] at a b;obtain⟨a1,a2⟩:=a.split;obtain⟨b1,b2⟩:=b.split;rw[t.zEN] at a1 a2 b1 b2;rw[t.uniq a1 b1,go t xs ys _ (by simpa using e) a2 b2]
def Ty.pv (t:Ty)(x:t.sem):PV:=cond t.one (.f (t.fv x)) (.agg ((t.cells x).map .f))
def Ty.en (t:Ty):PEn t.sem:=⟨t.pv,fun x y h=>by
 unfold Ty.pv at h
 cases ht:t.one with
 | true =>
   rw[ht] at h;injection h with h;exact t.inj x y (by rw[Ty.cells_one ht,Ty.cells_one ht,h])
 | false =>
   rw[ht] at h;injection h with h
   exact t.inj x y (q86 _ _ h),fun P Z Z' H x y v a b=>by
 unfold Ty.pv at a b
 cases ht:t.one with
 | true =>
   rw[ht] at a b
   cases a with
   | f a=>cases b with
     | f b=>exact t.uniq (vs:=[v]) (by rw[Ty.cells_one ht];exact .cons a ⟨rfl,fun i x v h=>by simp at h⟩) (by rw[Ty.cells_one ht];exact .cons b ⟨rfl,fun i x v h=>by simp at h⟩)
 | false =>
   rw[ht] at a b;obtain⟨vs,rfl,h1⟩:=VR.zG0 a;obtain⟨vs',e,h2⟩:=VR.zG0 b;cases e
   exact t.uniq (qA2 h1) (qA2 h2)⟩
@[reducible] def TyL:List Ty->Type
  | []=>Unit
  | [t]=>t.sem
  | t::u::ts=>t.sem×TyL (u::ts)
def pvL:(ts:List Ty)->TyL ts->List PV
 | [],_=>[]
 | [t],x=>[t.pv x]
 | t::u::ts,x=>t.pv x.1::pvL (u::ts) x.2
theorem qYE:∀ (ts:List Ty) (x y:TyL ts),pvL ts x=pvL ts y->x=y
 | [],_,_,_=>rfl
 | [t],x,y,h=>by injection h with h;exact t.en.inj x y h
 | t::u::ts,x,y,h=>by
   injection h with h1 h2;exact Prod.ext (t.en.inj _ _ h1) (qYE (u::ts) _ _ h2)
theorem qP1:∀ (ts:List Ty) (x y:TyL ts) (vs:List Value),VRL P Z H (fun _=>none) (pvL ts x) vs->VRL P Z' H (fun _=>none) (pvL ts y) vs->x=y
 | [],_,_,_,_,_=>rfl
 | [t],x,y,vs,a,b=>by
   obtain⟨v,vs',rfl,a1,_⟩:=a.zEH;obtain⟨v',vs2,e,b1,_⟩:=b.zEH;cases e;exact t.en.uniq P Z Z' H x y v a1 b1
 | t::u::ts,x,y,vs,a,b=>by
   obtain⟨v,vs',rfl,a1,a2⟩:=a.zEH;obtain⟨v',vs2,e,b1,b2⟩:=b.zEH;cases e;exact Prod.ext (t.en.uniq P Z Z' H _ _ v a1 b1) (qP1 (u::ts) _ _ _ a2 b2)
def enL (ts:List Ty):AEn (TyL ts):=⟨pvL ts,qYE ts,fun P Z Z' H x y vs a b=>qP1 ts x y vs a b⟩
def jF:(ts:List Ty)->TyL ts->PV:=fun ts x=>qC2 (pvL ts x)
end Go.Sv
namespace Go.Sv
open Go.Idl
variable [Gc]
variable {P:Program}
variable {b:Bool}{k:Nat}
def zED (R:Type):Type:=Option R
section
variable {R α σ ρ:Type}
def zED.run (t:zED R):Option R:=t
def zED.fail:zED R:=(none:Option R)
def zED.ret (r:R):zED R:=some r
def zED.ite (b:Bool)(x y:zED R):zED R:=cond b x y
noncomputable def zED.bind (o:Option α)(k:α->zED R):zED R:=Option.rec zED.fail k o
open Classical in
noncomputable def qH6 (x y:Option R):Option R:=if x=y then x else none
noncomputable def zED.both (x y:zED R):zED R:=zED.bind (qH6 x y) .ret
noncomputable def zED.loop (f:σ->zED (σ⊕ρ))(s:σ)(k:ρ->zED R):zED R:=zED.bind (qW (fun s=>(f s).run) s) k
end
theorem run_ite {R:Type}{x y:zED R}{r:R}(h:(zED.ite b x y).run=some r):(b=true∧x.run=some r)∨(b=false∧y.run=some r):=by
 cases b with
 | true=>exact .inl ⟨rfl,h⟩
 | false=>exact .inr ⟨rfl,h⟩
theorem run_bind {R α:Type}{o:Option α}{k:α->zED R}{r:R}(h:(zED.bind o k).run=some r):∃ a,o=some a∧(k a).run=some r:=by
 cases o with
 | none=>cases h
 | some a=>exact⟨a,rfl,h⟩
theorem qPA {R σ ρ:Type}{f:σ->zED (σ⊕ρ)}{s:σ}{k:ρ->zED R}{r:R}(h:(zED.loop f s k).run=some r):∃ a,qW (fun s=>(f s).run) s=some a∧(k a).run=some r:=run_bind h
theorem qVE {R:Type}{x y:Option R}{r:R}(h:qH6 x y=some r):x=some r∧y=some r:=by
 unfold qH6 at h;split at h
 ·rename_i e;exact⟨h,e ▸ h⟩
 ·cases h
theorem qY4 {R:Type}{x y:zED R}{r:R}(h:(zED.both x y).run=some r):x.run=some r∧y.run=some r:=by
 obtain⟨a,h1,h2⟩:=run_bind h;cases h2;exact qVE h1
theorem qRW {R:Type}(x:Option R):qH6 x x=x:=by unfold qH6;rw[if_pos rfl]
theorem qG {R:Type}{x:zED R}{r:R}(h:(cond b x .fail).run=some r):b=true∧x.run=some r:=by
 cases b with
 | true=>exact⟨rfl,h⟩
 | false=>cases h
inductive SV where
 | d (t:Ty) (x:t.sem)
 | c (v:Value)
 | agg (l:List SV)
 | tup (l:List SV)
 | own (k g n:Nat)
 | sl (k g n o m:Nat)
 | ref (k off w:Nat)
 | elt (k g n w j off:Nat)
 | lp (t:Ty) (xs:List t.sem) (j off:Nat)
 | fn (f:FuncId) (first cap:List SV)
 | unk
 | yv
 | bq
 | mp (k:Nat)
 | opt (b:Bool) (k off w:Nat)
 | rfx (k off w:Nat)
 | etx (k g n w j off:Nat)
 | asl (el:TypeId) (k w n:Nat)
section
variable [Yl]
mutual
def SV.enc:SV->PV
 | .d t x=>.f (t.fv x)
 | .c v=>fvv v
 | .agg l=>.agg (qC l)
 | .tup l=>.tup (qC l)
 | .own k _ n=>.own k n 0 n
 | .sl k _ n o m=>.own k n o m
 | .ref k off w=>.ref k w off
 | .elt k _ n w j off=>.ref k (n*w) (j*w+off)
 | .lp t xs j off=>.lp (List.flatMap t.cells xs) (j*t.w+off)
 | .fn f a b=>.fn f (qC a) (qC b)
 | .unk=>.unk
 | .yv=>.yl Yl.l
 | .bq=>.bq
 | .mp k=>.mp k
 | .opt b k off w=>cond b (.ref k w off) (fvv (.pointer none))
 | .rfx k off w=>.ref k w off
 | .etx k _ n w j off=>.ref k (n*w) (j*w+off)
 | .asl el k _ n=>.asl el k n
def qC:List SV->List PV
 | []=>[]
 | x::l=>x.enc::qC l
end
theorem zH:∀ (l:List SV),qC l=l.map SV.enc
 | []=>by simp[qC]
 | x::l=>by simp[qC,zH l]
end
inductive SpO where
 | map (es:List (Value×Value))
 | iter (s:ByteArray) (pos:Nat)
 | mit (t:TypeId) (k since last:Nat) (seen:List Nat)
 | arr (el:TypeId) (k:IntKind) (xs:List Int)
def kC:Nat->List (Value×Value)->List MapEntry
 | _,[]=>[]
 | i,p::l=>⟨p.1,p.2,i⟩::kC (i+1) l
def SpO.enc:SpO->PO
 | .map es=>⟨1000000001,false,wW (List.length es) (kC 0 es)⟩
 | .iter s pos=>⟨1000000000,false,qDV s pos⟩
 | .mit _ k since last seen=>⟨1000000002,false,qLX (.mp k) since last seen⟩
 | .arr el k xs=>⟨el,false,xs.map fun x=>fvv (.int k x)⟩
inductive SO where
 | spc (w:Nat) (x:SpO)
 | cells (el:TypeId) (w:Nat) (l:List SV)
 | list (el:TypeId) (gr:Bool) (g w:Nat) (t:Ty) (xs:List t.sem)
section
variable [Yl]
def SO.enc:SO->PO
 | .cells el _ l=>⟨el,false,qC l⟩
 | .list el gr _ _ t xs=>⟨el,gr,(List.flatMap t.cells xs).map .f⟩
 | .spc _ x=>x.enc
def SO.w:SO->Nat
 | .cells _ w _=>w
 | .list _ _ _ w _ _=>w
 | .spc w _=>w
structure SH where
 next:Nat
 l:List (Nat×SO)
def slk (k:Nat):List (Nat×SO)->Option SO
 | []=>none
 | (j,o)::l=>cond (k==j) (some o) (slk k l)
def sst (k:Nat)(o:SO):List (Nat×SO)->List (Nat×SO)
 | []=>[]
 | (j,p)::l=>cond (k==j) ((j,o)::l) ((j,p)::sst k o l)
def sdl (k:Nat):List (Nat×SO)->List (Nat×SO)
 | []=>[]
 | (j,p)::l=>cond (k==j) (sdl k l) ((j,p)::sdl k l)
def qD:List (Nat×SO)->PHp
 | []=>[]
 | (j,o)::l=>(j,o.enc)::qD l
theorem vH (k:Nat):∀ (l:List (Nat×SO)),qB k (qD l)=(slk k l).map SO.enc
 | []=>rfl
 | (j,o)::l=>by
   show cond (k==j) (some o.enc) (qB k (qD l))=(cond (k==j) (some o) (slk k l)).map SO.enc;cases k==j
   ·exact vH k l
   ·rfl
theorem xW (k:Nat)(o:SO):∀ (l:List (Nat×SO)),qD (sst k o l)=xY k o.enc (qD l)
 | []=>rfl
 | (j,p)::l=>by
   show qD (cond (k==j) ((j,o)::l) ((j,p)::sst k o l))=cond (k==j) ((j,o.enc)::qD l) ((j,p.enc)::xY k o.enc (qD l));cases k==j
   ·show (j,p.enc)::qD (sst k o l)=_;rw[xW k o l];rfl
   ·rfl
theorem gP (k:Nat):∀ (l:List (Nat×SO)),qD (sdl k l)=nC k (qD l)
 | []=>rfl
 | (j,p)::l=>by
   show qD (cond (k==j) (sdl k l) ((j,p)::sdl k l))=cond (k==j) (nC k (qD l)) ((j,p.enc)::nC k (qD l));cases k==j
   ·show (j,p.enc)::qD (sdl k l)=_;rw[gP k l];rfl
   ·exact gP k l
end
theorem qDS {k j:Nat}{o:SO}(hj:j≠k):∀ (l:List (Nat×SO)),slk j (sst k o l)=slk j l
 | []=>rfl
 | (i,p)::l=>by
   show slk j (cond (k==i) ((i,o)::l) ((i,p)::sst k o l))=cond (j==i) (some p) (slk j l)
   cases h:k==i with
   | true =>
     have:k=i:=by simpa using h
     subst this;show cond (j==k) (some o) (slk j l)=_;rw[show (j==k)=false by simpa using hj];rfl
   | false =>
     show cond (j==i) (some p) (slk j (sst k o l))=_;rw[qDS hj l]
theorem qX1 {k:Nat}{o p:SO}:∀ {l:List (Nat×SO)},slk k l=some p->slk k (sst k o l)=some o
 | (i,q)::l,h=>by
   have h:cond (k==i) (some q) (slk k l)=some p:=h;show slk k (cond (k==i) ((i,o)::l) ((i,q)::sst k o l))=some o
   cases hi:k==i with
   | true =>
     show cond (k==i) (some o) (slk k l)=some o;rw[hi];rfl
   | false =>
     rw[hi] at h;show cond (k==i) (some q) (slk k (sst k o l))=some o;rw[hi];exact qX1 (l:=l) h
theorem kU {k j:Nat}(hj:j≠k):∀ (l:List (Nat×SO)),slk j (sdl k l)=slk j l
 | []=>rfl
 | (i,p)::l=>by
   show slk j (cond (k==i) (sdl k l) ((i,p)::sdl k l))=cond (j==i) (some p) (slk j l)
   cases h:k==i with
   | true =>
     have:k=i:=by simpa using h
     subst this;rw[show (j==k)=false by simpa using hj];exact kU hj l
   | false =>
     show cond (j==i) (some p) (slk j (sdl k l))=_;rw[kU hj l]
theorem qL5 (k:Nat):∀ (l:List (Nat×SO)),slk k (sdl k l)=none
 | []=>rfl
 | (i,p)::l=>by
   show slk k (cond (k==i) (sdl k l) ((i,p)::sdl k l))=none
   cases h:k==i with
   | true=>exact qL5 k l
   | false =>
     show cond (k==i) (some p) (slk k (sdl k l))=none;rw[h];exact qL5 k l
theorem yB {j:Nat}{o:SO}{l:List (Nat×SO)}(hj:j≠k):slk j ((k,o)::l)=slk j l:=by
 show cond (j==k) (some o) (slk j l)=_;rw[show (j==k)=false by simpa using hj];rfl
theorem jB {o:SO}{l:List (Nat×SO)}:slk k ((k,o)::l)=some o:=by
 show cond (k==k) (some o) (slk k l)=_;simp
def qVT (h:SH)(k g n:Nat):Prop:=g < h.next∧∀ el gr w t xs,slk k h.l=some (.list el gr g w t xs)->n=xs.length
mutual
def SV.ok (h:SH):SV->Prop
 | .agg l=>okL h l
 | .tup l=>okL h l
 | .own k g n=>qVT h k g n
 | .sl k g n o m=>qVT h k g n∧o+m<=n
 | .elt k g n _ _ _=>qVT h k g n
 | .etx k g n _ _ _=>qVT h k g n
 | .fn _ a b=>okL h a∧okL h b
 | .asl _ k w n=>w < h.next∧∀ ob,slk k h.l=some ob->ob.w=w->∃ el ik,∃ xs:List Int,ob=.spc w (.arr el ik xs)∧n=xs.length
 | _=>True
def okL (h:SH):List SV->Prop
 | []=>True
 | x::l=>x.ok h∧okL h l
end
theorem zM {h:SH}:∀ {l:List SV},okL h l ↔ ∀ x∈l,x.ok h
 | []=>by simp[okL]
 | x::l=>by simp[okL,zM (l:=l)]
structure OkH (P:Program) (h:SH):Prop where
 ver:∀ k ob,slk k h.l=some ob->ob.w < h.next
 cells:∀ k el w l,slk k h.l=some (.cells el w l)->okL h l
 list:∀ k el gr g w t xs,slk k h.l=some (.list el gr g w t xs)->g < h.next∧szT P el=some t.w∧0 < t.w
structure Keep (h h':SH):Prop where
 next:h.next<=h'.next
 same:∀ k ob,slk k h'.l=some ob->ob.w < h.next->slk k h.l=some ob
 len:∀ k el gr g w t xs,slk k h'.l=some (.list el gr g w t xs)->g < h.next->∃ w0,∃ xs0:List t.sem,slk k h.l=some (.list el gr g w0 t xs0)∧xs0.length=xs.length
theorem Keep.refl (h:SH):Keep h h:=⟨zNV _,fun _ _ h _=>h,fun k el gr g w t xs h _=>⟨w,xs,h,rfl⟩⟩
theorem Keep.trans {a b c:SH}(x:Keep a b)(y:Keep b c):Keep a c :=
 ⟨zOH x.next y.next,fun k ob h hw=>x.same k ob (y.same k ob h (zNY hw x.next)) hw,fun k el gr g w t xs h hg=>by
   obtain⟨w1,xs1,h1,e1⟩:=y.len k el gr g w t xs h (zNY hg x.next);obtain⟨w2,xs2,h2,e2⟩:=x.len k el gr g w1 t xs1 h1 hg
   exact⟨w2,xs2,h2,e2.trans e1⟩⟩
theorem qVT.keep {h h':SH}{g n:Nat}(a:qVT h k g n)(b:Keep h h'):qVT h' k g n :=
 ⟨zNY a.1 b.next,fun el gr w t xs hk=>by
   obtain⟨w0,xs0,h0,e0⟩:=b.len k el gr g w t xs hk a.1
   rw[<-e0];exact a.2 el gr w0 t xs0 h0⟩
mutual
theorem SV.ok.keep {h h':SH}(b:Keep h h'):∀ {x:SV},x.ok h->x.ok h'
 | .agg l,a=>by simp only[SV.ok] at a ⊢;exact qI b a
 | .tup l,a=>by simp only[SV.ok] at a ⊢;exact qI b a
 | .own k g n,a=>by simp only[SV.ok] at a ⊢;exact a.keep b
 | .sl k g n o m,a=>by simp only[SV.ok] at a ⊢;exact⟨a.1.keep b,a.2⟩
 | .elt k g n w j off,a=>by simp only[SV.ok] at a ⊢;exact a.keep b
 | .etx k g n w j off,a=>by simp only[SV.ok] at a ⊢;exact a.keep b
 | .fn f x y,a=>by simp only[SV.ok] at a ⊢;exact⟨qI b a.1,qI b a.2⟩
 | .d _ _,_=>by simp[SV.ok]
 | .c _,_=>by simp[SV.ok]
 | .ref _ _ _,_=>by simp[SV.ok]
 | .lp _ _ _ _,_=>by simp[SV.ok]
 | .unk,_=>by simp[SV.ok]
 | .yv,_=>by simp[SV.ok]
 | .bq,_=>by simp[SV.ok]
 | .mp _,_=>by simp[SV.ok]
 | .opt _ _ _ _,_=>by simp[SV.ok]
 | .rfx _ _ _,_=>by simp[SV.ok]
 | .asl el k w n,a=>by
   simp only[SV.ok] at a ⊢;exact⟨zNY a.1 b.next,fun ob ho hw=>a.2 ob (b.same k ob ho (by rw[hw];exact a.1)) hw⟩
theorem qI {h h':SH}(b:Keep h h'):∀ {l:List SV},okL h l->okL h' l
 | [],_=>by simp[okL]
 | x::l,a=>by simp only[okL] at a ⊢;exact⟨SV.ok.keep b a.1,qI b a.2⟩
end
def SH.new (h:SH)(k:Nat)(f:Nat->SO):SH:=⟨h.next+1,(k,f h.next)::h.l⟩
def SH.put (h:SH)(k:Nat)(f:Nat->SO):SH:=⟨h.next+1,sst k (f h.next) h.l⟩
def SH.del (h:SH)(k:Nat):SH:=⟨h.next,sdl k h.l⟩
def q8J (P:Program)(h:SH)(n:Nat):SO->Prop
 | .cells _ w l=>w=n∧okL h l
 | .list el _ g w t _=>w=n∧g=n∧szT P el=some t.w∧0 < t.w
 | .spc w _=>w=n
theorem qZO {h:SH}{f:Nat->SO}(hw:(f h.next).w=h.next)(hg:∀ el gr g w t xs,f h.next=.list el gr g w t xs->g=h.next):Keep h (h.new k f) :=
 ⟨zRB _,fun j ob hj hlt=>by
   by_cases e:j=k
   ·subst e;rw[show slk j (h.new j f).l=some (f h.next) from jB] at hj;cases hj;omega
   ·rwa [show slk j (h.new k f).l=slk j h.l from yB e] at hj,fun j el gr g w t xs hj hlt=>by
   by_cases e:j=k
   ·subst e;rw[show slk j (h.new j f).l=some (f h.next) from jB] at hj;have:=hg _ _ _ _ _ _ (zOP hj);omega
   ·rw[show slk j (h.new k f).l=slk j h.l from yB e] at hj
    exact⟨w,xs,hj,rfl⟩⟩
theorem xE {h:SH}{f:Nat->SO}(a:OkH P h)(hf:q8J P h h.next (f h.next)):Keep h (h.new k f)∧OkH P (h.new k f):=by
 have hw:(f h.next).w=h.next:=by
  cases hq:f h.next with
  | cells el w l=>rw[hq] at hf;exact hf.1
  | list el gr g w t xs=>rw[hq] at hf;exact hf.1
  | spc w x=>rw[hq] at hf;exact hf
 have hk:Keep h (h.new k f):=qZO hw fun el gr g w t xs e=>by rw[e] at hf;exact hf.2.1
 refine⟨hk,⟨fun j ob hj=>?_,fun j el w l hj=>?_,fun j el gr g w t xs hj=>?_⟩⟩
 ·by_cases e:j=k
  ·subst e;rw[show slk j (h.new j f).l=some (f h.next) from jB] at hj;cases hj;rw[hw];exact zOO _
  ·rw[show slk j (h.new k f).l=slk j h.l from yB e] at hj;exact zPG (a.ver j ob hj)
 ·by_cases e:j=k
  ·subst e;rw[show slk j (h.new j f).l=some (f h.next) from jB] at hj;rw[zOP hj] at hf;exact qI hk hf.2
  ·rw[show slk j (h.new k f).l=slk j h.l from yB e] at hj;exact qI hk (a.cells j el w l hj)
 ·by_cases e:j=k
  ·subst e;rw[show slk j (h.new j f).l=some (f h.next) from jB] at hj;rw[zOP hj] at hf;exact⟨by rw[hf.2.1];exact zOO _,hf.2.2⟩
  ·rw[show slk j (h.new k f).l=slk j h.l from yB e] at hj;have:=a.list j el gr g w t xs hj;exact⟨zPG this.1,this.2⟩
def zBV (h:SH)(n:Nat):SO->SO->Prop
 | .cells _ _ _,.cells _ w' l'=>w'=n∧okL h l'
 | .list el gr g _ t xs,ob'=>∃ xs':List t.sem,ob'=.list el gr g n t xs'∧xs.length=xs'.length
 | .spc _ _,.spc w' _=>w'=n
 | _,_=>False
theorem vL {h:SH}{f:Nat->SO}{ob:SO}(a:OkH P h)(hk:slk k h.l=some ob)(hf:zBV h h.next ob (f h.next)):Keep h (h.put k f)∧OkH P (h.put k f):=by
 have hs:slk k (h.put k f).l=some (f h.next):=qX1 hk;have hn:∀ j,j≠k->slk j (h.put k f).l=slk j h.l:=fun j hj=>qDS hj _
 have hw:(f h.next).w=h.next:=by
  cases ob with
  | cells el w l =>
    cases hq:f h.next with
    | cells el' w' l'=>rw[hq] at hf;exact hf.1
    | list=>rw[hq] at hf;exact hf.elim
    | spc=>rw[hq] at hf;exact hf.elim
  | spc w0 x0 =>
    cases hq:f h.next with
    | spc w' x'=>rw[hq] at hf;exact hf
    | list=>rw[hq] at hf;exact hf.elim
    | cells=>rw[hq] at hf;exact hf.elim
  | list el gr g w t xs =>
    obtain⟨xs',e,_⟩:=hf;rw[e];rfl
 have hkp:Keep h (h.put k f):=by
  refine⟨zRB _,fun j o hj hlt=>?_,fun j el gr g w t xs hj hlt=>?_⟩
  ·by_cases e:j=k
   ·subst e;rw[hs] at hj;cases hj;omega
   ·rwa [hn j e] at hj
  ·by_cases e:j=k
   ·subst e;rw[hs] at hj;have hj:=zOP hj
    cases ob with
    | cells el0 w0 l0 =>
      rw[hj] at hf;exact hf.elim
    | spc w0 x0 =>
      rw[hj] at hf;exact hf.elim
    | list el0 gr0 g0 w0 t0 xs0 =>
      obtain⟨xs',e2,e3⟩:=hf;rw[e2] at hj;injection hj with a1 a2 a3 a4 a5 a6;subst a1 a2 a3 a5;cases a6;exact⟨w0,xs0,hk,e3⟩
   ·rw[hn j e] at hj;exact⟨w,xs,hj,rfl⟩
 refine⟨hkp,⟨fun j o hj=>?_,fun j el w l hj=>?_,fun j el gr g w t xs hj=>?_⟩⟩
 ·by_cases e:j=k
  ·subst e;rw[hs] at hj;cases hj;rw[hw];exact zOO _
  ·rw[hn j e] at hj;exact zPG (a.ver j o hj)
 ·by_cases e:j=k
  ·subst e;rw[hs] at hj;have hj:=zOP hj
   cases ob with
   | cells el0 w0 l0=>rw[hj] at hf;exact qI hkp hf.2
   | spc w0 x0=>rw[hj] at hf;exact hf.elim
   | list el0 gr0 g0 w0 t0 xs0 =>
     obtain⟨xs',e2,e3⟩:=hf;rw[e2] at hj;cases hj
  ·rw[hn j e] at hj;exact qI hkp (a.cells j el w l hj)
 ·by_cases e:j=k
  ·subst e;rw[hs] at hj;have hj:=zOP hj
   cases ob with
   | cells el0 w0 l0=>rw[hj] at hf;exact hf.elim
   | spc w0 x0=>rw[hj] at hf;exact hf.elim
   | list el0 gr0 g0 w0 t0 xs0 =>
     obtain⟨xs',e2,e3⟩:=hf;rw[e2] at hj;injection hj with a1 a2 a3 a4 a5 a6;subst a1 a2 a3 a5;have:=a.list j _ _ _ _ _ _ hk;exact⟨zPG this.1,this.2⟩
  ·rw[hn j e] at hj;have:=a.list j el gr g w t xs hj;exact⟨zPG this.1,this.2⟩
theorem gZ {h:SH}(a:OkH P h):Keep h (h.del k)∧OkH P (h.del k):=by
 have hl:∀ j ob,slk j (h.del k).l=some ob->slk j h.l=some ob:=fun j ob hj=>by
  by_cases e:j=k
  ·subst e;rw[show slk j (h.del j).l=none from qL5 j _] at hj;cases hj
  ·rwa [show slk j (h.del k).l=slk j h.l from kU e _] at hj
 have hkp:Keep h (h.del k):=⟨zNV _,fun j ob hj _=>hl j ob hj,fun j el gr g w t xs hj _=>⟨w,xs,hl _ _ hj,rfl⟩⟩
 exact⟨hkp,⟨fun j ob hj=>a.ver j ob (hl j ob hj),fun j el w l hj=>qI hkp (a.cells j el w l (hl _ _ hj)),fun j el gr g w t xs hj=>a.list j el gr g w t xs (hl _ _ hj)⟩⟩
def GV (Γ:Option Type):Type:=match Γ with
 | none=>Unit
 | some γ=>γ
def GS (Γ:Option Type)(S:Type):Type:=match Γ with
 | none=>S
 | some γ=>γ×S
def gj:{Γ:Option Type}->{S:Type}->GV Γ->S->GS Γ S
 | none,_,_,s=>s
 | some _,_,g,s=>(g,s)
def g1:{Γ:Option Type}->{S:Type}->GS Γ S->GV Γ
 | none,_,_=>()
 | some _,_,p=>p.1
def g2:{Γ:Option Type}->{S:Type}->GS Γ S->S
 | none,_,s=>s
 | some _,_,p=>p.2
theorem q2R {Γ:Option Type}{S:Type}{g:GV Γ}{s:S}:g1 (gj g s)=g:=by cases Γ <;> rfl
theorem q2K {Γ:Option Type}{S:Type}{g:GV Γ}{s:S}:g2 (gj g s)=s:=by cases Γ <;> rfl
structure Ent where
 as:List Ty
 rs:List Ty
 F:TyL as->Option (TyL rs)
abbrev z8:=List (FuncId×Ent)
def slT (g:FuncId):z8->Option Ent
 | []=>none
 | (k,e)::l=>cond (Nat.beq g k) (some e) (slT g l)
structure Sh where
 d:List Nat
 o:List Nat
 s:List (Nat×Nat)
 v:List (Nat×TypeId)
 ex:List Nat
 b:List (Nat×List (Option Nat)):=[]
 bv:List (Nat×Nat×TypeId×Nat):=[]
structure Ab where
 A:List Ty->Type
 f:∀ ts,TyL ts->A ts
structure zG1 where
 d:List Nat
 os:List (Nat×Bool)
 s:List (Nat×Nat)
 b:List (Nat×List (Option Nat))
 ts:List Ty
def zG1.sh (j:zG1):Sh:=⟨j.d,j.os.map (·.1),j.s,[],[],j.b,[]⟩
structure An where
 fz:List (Nat×List (Nat×TypeId))
 lp:List (Nat×Sh)
 rg:List (Nat×Sh):=[]
 ab:List (Nat×Ab):=[]
 jn:List (Nat×zG1):=[]
def lkA.{u}{α:Type u}(i:Nat):List (Nat×α)->Option α
 | []=>none
 | (j,x)::l=>cond (Nat.beq i j) (some x) (lkA i l)
structure zEY where
 as:List Ty
 ys:List Ty
 yt:List TypeId
 F:TyL as->(γ:Type)->(γ->TyL ys->Option (γ×Bool))->γ->Option γ
def slI (g:FuncId):List (FuncId×zEY)->Option zEY
 | []=>none
 | (k,e)::l=>cond (Nat.beq g k) (some e) (slI g l)
structure YI (Γ:Type) where
 ys:List Ty
 yt:List TypeId
 stp:Γ->TyL ys->Option (Γ×Bool)
def yi0:YI Unit:=⟨[],[],fun _ _=>none⟩
abbrev CIT:Type 1:=(R:Type)->Nm->FuncId->List SV->SH->(SV->SH->zED R)->zED R
end Go.Sv
namespace Go.Sv
open Go.Idl
variable {a b env l:List SV}{el t:TypeId}{ik k:IntKind}{j n off w w':Nat}{v x:SV}{xs ys:List Int}
noncomputable section
variable [Gc]
variable [Yl]
variable {P:Program}{h:SH}{R:Type}{r:R}
def q9X:Value->SV
 | .agg cs=>cond (jX okC cs.toList) (.agg (kR .c cs.toList)) .unk
 | .tuple cs=>cond (jX okC cs.toList) (.tup (kR .c cs.toList)) .unk
 | v=>cond (okC v) (.c v) .unk
def kF (env:List SV):Operand->SV
 | .tmp t=>(zL env t).getD .unk
 | .const v=>q9X v
 | .global _=>.unk
 | .func g=>.c (.func (.func g) #[] #[])
theorem zBL:∀ (l:List Value),qC (kR .c l)=kR fvv l
 | []=>by simp[kR,qC]
 | v::l=>by
   show qC (.c v::kR .c l)=fvv v::kR fvv l;simp[qC,zBL l,SV.enc]
omit [Yl] in
theorem zA7:∀ (l:List Value),okL h (kR .c l)
 | []=>by simp[kR,okL]
 | v::l=>by
   show okL h (.c v::kR .c l);simp[okL,zA7 l,SV.ok]
theorem q1C (v:Value):ofC v=(q9X v).enc:=by
 cases v with
 | agg cs =>
   show cond _ _ _=(cond (jX okC cs.toList) (SV.agg (kR .c cs.toList)) SV.unk).enc;cases jX okC cs.toList
   ·simp[SV.enc]
   ·simp[SV.enc,zBL]
 | tuple cs =>
   show cond _ _ _=(cond (jX okC cs.toList) (SV.tup (kR .c cs.toList)) SV.unk).enc;cases jX okC cs.toList
   ·simp[SV.enc]
   ·simp[SV.enc,zBL]
 | _ =>
   simp only[ofC,q4J,q9X];cases okC _ <;> simp[SV.enc]
omit [Yl] in
theorem q6G (v:Value):(q9X v).ok h:=by
 cases v with
 | agg cs =>
   show (cond (jX okC cs.toList) (.agg (kR .c cs.toList)) .unk:SV).ok h;cases jX okC cs.toList
   ·simp[SV.ok]
   ·simp[SV.ok,zA7]
 | tuple cs =>
   show (cond (jX okC cs.toList) (.tup (kR .c cs.toList)) .unk:SV).ok h;cases jX okC cs.toList
   ·simp[SV.ok]
   ·simp[SV.ok,zA7]
 | _ =>
   simp only[q9X];cases okC _ <;> simp[SV.ok]
theorem zA (env:List SV)(t:Nat):zL (qC env) t=(zL env t).map SV.enc:=by
 rw[qF,qF,zH,zN9]
omit [Yl] in
theorem mE {t:Nat}(ho:okL h env)(hx:zL env t=some x):x.ok h:=by
 rw[qF] at hx;exact zM.1 ho x (zOX hx)
theorem qR (env:List SV)(x:Operand):qK (qC env) x=(kF env x).enc:=by
 cases x with
 | tmp t =>
   show (zL (qC env) t).getD .unk=((zL env t).getD .unk).enc;rw[zA];cases zL env t <;> simp[SV.enc]
 | const v=>exact q1C v
 | global g=>simp[qK,kF,SV.enc]
 | func g=>simp[qK,kF,SV.enc]
omit [Yl] in
theorem mK (ho:okL h env)(x:Operand):(kF env x).ok h:=by
 cases x with
 | tmp t =>
   show ((zL env t).getD .unk).ok h
   cases hx:zL env t with
   | none=>simp[SV.ok]
   | some y=>exact mE ho hx
 | const v=>exact q6G v
 | global g=>simp[kF,SV.ok]
 | func g=>simp[kF,SV.ok]
def asI:SV->Option (IntKind×Int)
 | .d (.int k) x=>some (k,x)
 | .c (.int k x)=>some (k,x)
 | _=>none
def asB:SV->Option Bool
 | .d .bool x=>some x
 | .c (.bool x)=>some x
 | _=>none
def asS:SV->Option ByteArray
 | .d .str x=>some x
 | .c (.string x)=>some x
 | _=>none
theorem yI {x:Int}(e:asI v=some (k,x)):v.enc=fvv (.int k x):=by
 unfold asI at e;split at e
 ·cases e;simp[SV.enc,Ty.fv,fvv]
 ·cases e;simp[SV.enc]
 ·cases e
theorem pY {x:Bool}(e:asB v=some x):v.enc=fvv (.bool x):=by
 unfold asB at e;split at e
 ·cases e;simp[SV.enc,Ty.fv,fvv]
 ·cases e;simp[SV.enc]
 ·cases e
theorem fT {x:ByteArray}(e:asS v=some x):v.enc=fvv (.string x):=by
 unfold asS at e;split at e
 ·cases e;simp[SV.enc,Ty.fv,fvv]
 ·cases e;simp[SV.enc]
 ·cases e
def Ty.svs:(t:Ty)->t.sem->List SV
 | .int k,x=>[.d (.int k) x]
 | .bool,x=>[.d .bool x]
 | .str,x=>[.d .str x]
 | .unit,_=>[]
 | .list el t,x=>[.d (.list el t) x]
 | .pair a b,x=>a.svs x.1++b.svs x.2
 | .raw,x=>[.d .raw x]
 | .ol el k,x=>[.d (.ol el k) x]
 | .nif,x=>[.d .nif x]
theorem dK (a b:List SV):qC (a++b)=qC a++qC b:=by simp[zH]
theorem gW:∀ (t:Ty) (x:t.sem),qC (t.svs x)=(t.cells x).map .f
 | .int k,x=>by simp[Ty.svs,Ty.cells,qC,SV.enc,Ty.fv]
 | .bool,x=>by simp[Ty.svs,Ty.cells,qC,SV.enc,Ty.fv]
 | .str,x=>by simp[Ty.svs,Ty.cells,qC,SV.enc,Ty.fv]
 | .unit,x=>by simp[Ty.svs,Ty.cells,qC]
 | .list el t,x=>by simp[Ty.svs,Ty.cells,qC,SV.enc,Ty.fv]
 | .raw,x=>by simp[Ty.svs,Ty.cells,qC,SV.enc,Ty.fv]
 | .ol el k,x=>by simp[Ty.svs,Ty.cells,qC,SV.enc,Ty.fv]
 | .nif,x=>by simp[Ty.svs,Ty.cells,qC,SV.enc,Ty.fv]
 | .pair a b,x=>by
   show qC (a.svs x.1++b.svs x.2)=(a.cells x.1++b.cells x.2).map .f;rw[dK,gW a,gW b,zO0]
omit [Yl] in
theorem gV (x:okL h a)(y:okL h b):okL h (a++b):=zM.2 fun z hz=>by
 rcases zOZ.1 hz with q | q
 ·exact zM.1 x z q
 ·exact zM.1 y z q
omit [Yl] in
theorem qEL:∀ (t:Ty) (x:t.sem),okL h (t.svs x)
 | .int k,x=>by simp[Ty.svs,okL,SV.ok]
 | .bool,x=>by simp[Ty.svs,okL,SV.ok]
 | .str,x=>by simp[Ty.svs,okL,SV.ok]
 | .unit,x=>by simp[Ty.svs,okL]
 | .list el t,x=>by simp[Ty.svs,okL,SV.ok]
 | .raw,x=>by simp[Ty.svs,okL,SV.ok]
 | .ol el k,x=>by simp[Ty.svs,okL,SV.ok]
 | .nif,x=>by simp[Ty.svs,okL,SV.ok]
 | .pair a b,x=>gV (qEL a x.1) (qEL b x.2)
def q61 (k:IntKind)(v:SV):Option Int:=match asI v with
 | some (k',x)=>cond (decide (k'=k)) (some x) none
 | none=>none
def zB1 (el:TypeId)(t:Ty):SV->Option (List t.sem)
 | .d (.list el' t') xs=>if e:t'=t then cond (Nat.beq el' el) (some (e ▸ xs)) none else none
 | _=>none
def asR:SV->Option (List (Value×Value))
 | .d .raw x=>some x
 | _=>none
def q7E (el:TypeId)(k:IntKind):SV->Option (List Int)
 | .d (.ol el' k') xs=>cond (Nat.beq el' el&&decide (k'=k)) (some xs) none
 | .c (.slice none 0 0)=>some []
 | _=>none
def q4Z:SV->Option Unit
 | .d .nif _=>some ()
 | .c .nilIface=>some ()
 | _=>none
def Ty.zIS:(t:Ty)->SV->Option t.sem
 | .int k,v=>q61 k v
 | .bool,v=>asB v
 | .str,v=>asS v
 | .list el t,v=>zB1 el t v
 | .unit,_=>none
 | .pair _ _,_=>none
 | .raw,v=>asR v
 | .ol el k,v=>q7E el k v
 | .nif,v=>q4Z v
theorem nT {x:Int}(e:q61 k v=some x):v.enc=fvv (.int k x):=by
 unfold q61 at e;split at e
 ·rename_i k' x' hx
  cases hk:decide (k'=k) with
  | false=>rw[hk] at e;cases e
  | true =>
    rw[hk] at e;cases e;have:k'=k:=by simpa using hk
    subst this;exact yI hx
 ·cases e
omit [Yl] in
theorem q0Y {t:Ty}{x:List t.sem}(e:zB1 el t v=some x):v=.d (.list el t) x:=by
 unfold zB1 at e;split at e
 ·rename_i el' t' xs;split at e
  ·rename_i ht;subst ht
   cases hk:Nat.beq el' el with
   | false=>rw[hk] at e;cases e
   | true =>
     rw[hk] at e;cases e;have:el'=el:=zNU hk;subst this;rfl
  ·cases e
 ·cases e
theorem qV1 {x:List Int}(e:q7E el k v=some x):v.enc=.f (fvo el k x):=by
 unfold q7E at e;split at e
 ·rename_i el' k' xs
  cases hk:(Nat.beq el' el&&decide (k'=k)) with
  | false=>rw[hk] at e;cases e
  | true =>
    rw[hk] at e;cases e;rw[zNT] at hk;have h1:el'=el:=zNU hk.1;have h2:k'=k:=by simpa using hk.2
    subst h1 h2;simp[SV.enc,Ty.fv]
 ·cases e;simp[SV.enc,fvo,fvv]
 ·cases e
theorem tZ:∀ {t:Ty} {v:SV} {x:t.sem},t.zIS v=some x->v.enc=.f (t.fv x)∧t.one=true
 | .int k,v,x,e=>⟨nT e,rfl⟩
 | .bool,v,x,e=>⟨pY e,rfl⟩
 | .str,v,x,e=>⟨fT e,rfl⟩
 | .list el t,v,x,e=>⟨by rw[q0Y e];simp[SV.enc],rfl⟩
 | .ol el k,v,x,e=>⟨qV1 e,rfl⟩
 | .nif,v,x,e=>by
   have e:q4Z v=some x:=e;refine⟨?_,rfl⟩;unfold q4Z at e;split at e
   ·simp[SV.enc,Ty.fv]
   ·simp[SV.enc,Ty.fv,fvv]
   ·cases e
 | .raw,v,x,e=>by
   have e:asR v=some x:=e;refine⟨?_,rfl⟩;unfold asR at e;split at e
   ·cases e;simp[SV.enc]
   ·cases e
 | .unit,v,x,e=>by cases e
 | .pair a b,v,x,e=>by cases e
def q2G (t:Ty):List SV->Option (t.sem×List SV)
 | v::l=>match t.zIS v with
   | some x=>some (x,l)
   | none=>none
 | []=>none
def Ty.zHE:(t:Ty)->List SV->Option (t.sem×List SV)
 | .int k,l=>q2G (.int k) l
 | .bool,l=>q2G .bool l
 | .str,l=>q2G .str l
 | .raw,l=>q2G .raw l
 | .ol el k,l=>q2G (.ol el k) l
 | .nif,l=>q2G .nif l
 | .list el t,l=>q2G (.list el t) l
 | .unit,l=>some ((),l)
 | .pair a b,l=>match a.zHE l with
   | some (x,l1)=>(match b.zHE l1 with
     | some (y,l2)=>some ((x,y),l2)
     | none=>none)
   | none=>none
theorem fQ {t:Ty}{l':List SV}{x:t.sem}(e:q2G t l=some (x,l')):qC l=(t.cells x).map .f++qC l':=by
 cases l with
 | nil=>cases e
 | cons v l =>
   unfold q2G at e;simp only at e;split at e
   ·rename_i y hy;cases e;obtain⟨h1,h2⟩:=tZ hy;rw[Ty.cells_one h2];simp[qC,h1]
   ·cases e
theorem tV:∀ {t:Ty} {l l':List SV} {x:t.sem},t.zHE l=some (x,l')->qC l=(t.cells x).map .f++qC l'
 | .int k,l,l',x,e=>fQ e
 | .bool,l,l',x,e=>fQ e
 | .str,l,l',x,e=>fQ e
 | .raw,l,l',x,e=>fQ e
 | .ol _ _,l,l',x,e=>fQ e
 | .nif,l,l',x,e=>fQ e
 | .list el t,l,l',x,e=>fQ e
 | .unit,l,l',x,e=>by cases e;simp[Ty.cells]
 | .pair a b,l,l',x,e=>by
   unfold Ty.zHE at e;split at e
   ·rename_i x1 l1 h1;split at e
    ·rename_i y l2 h2;cases e;show qC l=(a.cells x1++b.cells y).map .f++qC l';rw[tV h1,tV h2,zO0,zOT]
    ·cases e
   ·cases e
def Ty.zG2 (t:Ty)(l:List SV):Option t.sem:=match t.zHE l with
 | some (x,[])=>some x
 | _=>none
theorem nL {t:Ty}{x:t.sem}(e:t.zG2 l=some x):qC l=(t.cells x).map .f:=by
 unfold Ty.zG2 at e;split at e
 ·rename_i y hy;cases e;rw[tV hy];simp[qC]
 ·cases e
def qGD (P:Program)(t:TypeId)(l:List SV)(off:Nat):Option SV:=match qPN P t with
 | some true=>(match szT P t with
   | some n=>cond (Nat.ble (off+n) l.length) (some (.agg ((l.drop off).take n))) none
   | none=>none)
 | some false=>zL l off
 | none=>none
omit [Yl] in
theorem qLV {b:List SV}(x:okL h a)(hs:∀ z∈b,z∈a):okL h b:=zM.2 fun z hz=>zM.1 x z (hs z hz)
theorem qE7 (e:qGD P t l off=some v):aV P t (qC l) off=some v.enc∧(okL h l->v.ok h):=by
 unfold qGD at e;unfold aV;split at e
 ·rename_i ha;rw[ha];simp only;split at e
  ·rename_i n hn;rw[hn];simp only
   cases hc:Nat.ble (off+n) l.length with
   | false=>rw[hc] at e;cases e
   | true =>
     rw[hc] at e;cases e;refine⟨by rw[zH,zN5,hc];simp[SV.enc,zH,zP6,zPZ],fun ho=>?_⟩;simp only[SV.ok];exact qLV ho fun z hz=>zQW (zQV hz)
  ·cases e
 ·rename_i ha;rw[ha];simp only;rw[zA,e];exact⟨rfl,fun ho=>mE ho e⟩
 ·cases e
theorem qBL {t':Ty}{xs:List t'.sem}{x:t'.sem}(hx:xs[j]?=some x)(e:qGD P t (t'.svs x) off=some v) :
 aV P t ((xs.flatMap t'.cells).map .f) (j*t'.w+off)=some v.enc∧qME P t (xs.flatMap t'.cells) (j*t'.w+off)=some v.enc∧v.ok h:=by
 have h0:=qE7 (h:=h) e;refine⟨?_,?_,h0.2 (qEL t' x)⟩
 all_goals
  have h1:=h0.1;rw[gW] at h1;unfold aV at h1
 ·unfold aV;split at h1
  ·rename_i ha;split at h1
   ·rename_i n hn
    cases hc:Nat.ble (off+n) ((t'.cells x).map PV.f).length with
    | false=>rw[hc] at h1;cases h1
    | true =>
      rw[hc] at h1
      have hle:off+n<=t'.w:=by
       have:=zN3 hc;rw[zN5,t'.zEN] at this;exact this
      rw[show Nat.ble (j*t'.w+off+n) ((xs.flatMap t'.cells).map PV.f).length=true from zOA (by rw[zN5];exact qFQ hx hle)];simp only[cond_true] at h1 ⊢;rw[<-h1,<-zP6,<-zPZ,qIQ hx hle,<-zP6,<-zPZ]
   ·cases h1
  ·rename_i ha;rw[qF,zN9] at h1 ⊢
   have hlt:off < t'.w:=by
    rw[<-t'.zEN x]
    cases hq:(t'.cells x)[off]? with
    | none=>rw[hq] at h1;cases h1
    | some y=>exact (zN0.1 hq).1
   rw[Go.Sv.flat_get hx hlt];exact h1
  ·cases h1
 ·unfold qME;split at h1
  ·rename_i ha;split at h1
   ·rename_i n hn
    cases hc:Nat.ble (off+n) ((t'.cells x).map PV.f).length with
    | false=>rw[hc] at h1;cases h1
    | true =>
      rw[hc] at h1
      have hle:off+n<=t'.w:=by
       have:=zN3 hc;rw[zN5,t'.zEN] at this;exact this
      rw[show Nat.ble (j*t'.w+off+n) (xs.flatMap t'.cells).length=true from zOA (qFQ hx hle)];simp only[cond_true] at h1 ⊢;rw[<-h1,qIQ hx hle,<-zP6,<-zPZ]
   ·cases h1
  ·rename_i ha;rw[qF,zN9] at h1
   cases hq:(t'.cells x)[off]? with
   | none=>rw[hq] at h1;cases h1
   | some y =>
     rw[hq] at h1
     have hlt:off < t'.w:=by
      rw[<-t'.zEN x];exact (zN0.1 hq).1
     rw[Go.Sv.flat_get hx hlt,hq];exact h1
  ·cases h1
def zA0:List SV->Option IntKind
 | v::_=>(asI v).map Prod.fst
 | []=>none
def qB3 (ik:IntKind):List SV->Option (List Int)
 | []=>some []
 | v::l=>match q61 ik v,qB3 ik l with
   | some x,some xs=>some (x::xs)
   | _,_=>none
def q2L (off:Nat)(v:Int)(xs:List Int):Option (List Int):=if off < xs.length then some (xs.set off v) else none
def spread (ik:IntKind)(n:Nat)(ys:List Int):List SV:=(List.range n).map fun i=>SV.d (.int ik) (ys.getD i 0:Int)
theorem wS {ik:IntKind}:∀ {l:List SV} {xs:List Int},qB3 ik l=some xs->qC l=xs.map fun x=>fvv (.int ik x)
 | [],xs,e=>by cases e;simp[qC]
 | v::l,xs,e=>by
   unfold qB3 at e;split at e
   ·rename_i x ys hx hy;cases e;simp only[qC,zOC,nT hx,wS hy]
   ·cases e
theorem rO (h:ys.length=n):qC (spread ik n ys)=ys.map fun x=>fvv (.int ik x):=by
 rw[zH];unfold spread;rw[zP2];apply zPB;intro i;rw[zN9,zN9];by_cases hi:i < n
 ·rw[zR5 hi,zNX (by omega:i < ys.length)];simp only[zN8,Function.comp,zN2];rw[zO8,zNX (by omega:i < ys.length)];simp[SV.enc,Ty.fv,fvv]
 ·rw[zO9 (by simp;omega),zO9 (by omega)];rfl
theorem qKP:okL h (spread ik n ys):=zM.2 fun x hx=>by
 unfold spread at hx;obtain⟨i,_,rfl⟩:=zOJ.1 hx;simp[SV.ok]
def zBE (P:Program)(t:TypeId)(off w:Nat)(el:TypeId)(ik:IntKind)(xs:List Int)(K:SV->zED R):zED R:=cond (spec P el) .fail (match qPN P t,szT P t with
 | some false,_=>.ite (Nat.beq w (List.length xs)) (.bind (xs[off]?) fun x=>K (.d (.int ik) (x:Int))) .fail
 | some true,some n=>cond (Nat.beq off 0&&Nat.beq n w) (.ite (Nat.beq w (List.length xs)) (K (.agg (spread ik w xs))) .fail) .fail
 | _,_=>.fail)
theorem qWR {k:Nat}{K:SV->zED R}(hk:qB k (qD h.l)=some (SO.spc w' (.arr el ik xs)).enc)(e:(zBE P t off w el ik xs K).run=some r):∃ v,fO P t (.ref k w off) (qD h.l)=some v.enc∧v.ok h∧(K v).run=some r:=by
 unfold zBE at e
 cases hsp:spec P el with
 | true=>rw[hsp] at e;cases e
 | false =>
 rw[hsp] at e;simp only[cond_false] at e
 have pre:fO P t (.ref k w off) (qD h.l)=cond (Nat.beq w xs.length) (aV P t (xs.map fun x=>fvv (.int ik x)) off) none:=by
  simp only[fO,hk];show cond (spec P el) none (cond (Nat.beq w (xs.map fun x=>fvv (.int ik x)).length) _ none)=_;rw[hsp,zN5];rfl
 rw[pre];split at e
 ·rename_i ha
  rcases run_ite e with ⟨z,e1⟩ | ⟨_,e1⟩
  ·obtain⟨x,hx,e2⟩:=run_bind e1;refine⟨_,?_,by simp[SV.ok],e2⟩;rw[z];simp only[cond_true,aV,ha];rw[qF,zN9,hx];simp[SV.enc,Ty.fv,fvv]
  ·cases e1
 ·rename_i n ha hn;obtain⟨c,e0⟩:=qG e;rw[zNT] at c;have h0:=zNU c.1;have h1:=zNU c.2;subst h0 h1
  rcases run_ite e0 with ⟨z,e1⟩ | ⟨_,e1⟩
  ·refine⟨_,?_,by simp only[SV.ok];exact qKP,e1⟩;have hl:=zNU z;rw[z];simp only[cond_true,aV,ha,hn];rw[show Nat.ble (0+n) (xs.map fun x=>fvv (.int ik x)).length=true from zOA (by rw[zN5];omega)];simp only[cond_true,zPA,SV.enc];rw[rO hl.symm,zOL (by rw[zN5];omega)]
  ·cases e1
 ·cases e
def q4U (P:Program)(t:TypeId)(a:SV)(h:SH)(K:SV->zED R):zED R:=match a with
 | .ref k off w=>(match slk k h.l with
   | some (.cells el _ l)=>(match qGD P t l off with
     | some v=>cond (!(spec P el)&&Nat.beq w l.length) (K v) .fail
     | none=>.fail)
   | some (.spc _ (.arr el ik xs))=>zBE P t off w el ik xs K
   | _=>.fail)
 | .elt k g n w j off=>(match slk k h.l with
   | some (.list _ _ g' _ t' xs)=>cond (Nat.beq g g'&&Nat.beq w t'.w) (.bind (xs[j]?) fun x=>match qGD P t (t'.svs x) off with
     | some v=>K v
     | none=>.fail) .fail
   | _=>.fail)
 | .lp t' xs j off=>.bind (xs[j]?) fun x=>match qGD P t (t'.svs x) off with
   | some v=>K v
   | none=>.fail
 | .rfx k off w=>(match slk k h.l with
   | some (.cells el _ l)=>(match zA0 l with
     | some ik=>(match qB3 ik l,qPN P t with
       | some xs,some false=>cond (!(spec P el)&&Nat.beq w l.length) (.bind (xs[off]?) fun x=>K (.d (.int ik) (x:Int))) .fail
       | _,_=>.fail)
     | none=>.fail)
   | some (.spc _ (.arr el ik xs))=>zBE P t off w el ik xs K
   | _=>.fail)
 | .etx k g n w j off=>(match slk k h.l with
   | some (.list _ _ g' _ t' xs)=>cond (Nat.beq g g'&&Nat.beq w t'.w) (.bind (xs[j]?) fun x=>match zA0 (t'.svs x) with
     | some ik=>(match qB3 ik (t'.svs x),qPN P t with
       | some ys,some false=>.bind (ys[off]?) fun z=>K (.d (.int ik) (z:Int))
       | _,_=>.fail)
     | none=>.fail) .fail
   | _=>.fail)
 | _=>.fail
theorem qV (l:List SV):(qC l).length=l.length:=by rw[zH,zN5]
theorem zP {k:Nat}{ob:SO}{l:List (Nat×SO)}(e:slk k l=some ob):qB k (qD l)=some ob.enc:=by rw[vH,e];rfl
theorem qY {gr:Bool}{g:Nat}{t:Ty}{xs:List t.sem}:(SO.list el gr g w t xs).enc.cs.length=xs.length*t.w:=by
 show ((xs.flatMap t.cells).map PV.f).length=_;rw[zN5,zX]
theorem q15 {a:SV}{K:SV->zED R}(ho:OkH P h)(ha:a.ok h)(e:(q4U P t a h K).run=some r):∃ v,fO P t a.enc (qD h.l)=some v.enc∧v.ok h∧(K v).run=some r:=by
 unfold q4U at e;split at e
 ·rename_i k off w;split at e
  ·rename_i el w' l hk;split at e
   ·rename_i v hv;obtain⟨h1,h2⟩:=qG e;rw[zNT,zOE] at h1;obtain⟨hsp,h1⟩:=h1;obtain⟨h3,h4⟩:=qE7 (h:=h) hv;refine⟨v,?_,h4 (ho.cells _ _ _ _ hk),h2⟩;simp only[SV.enc,fO,zP hk];show cond (spec P el) none (cond (Nat.beq w (qC l).length) (aV P t (qC l) off) none)=_;rw[qV,h1,hsp];exact h3
   ·cases e
  ·rename_i w' el ik xs hk;obtain⟨v,h1,h2,h3⟩:=qWR (zP hk) e;exact⟨v,by simp only[SV.enc];exact h1,h2,h3⟩
  ·cases e
 ·rename_i k g n w j off;split at e
  ·rename_i el gr g' w' t' xs hk;obtain⟨h1,h2⟩:=qG e;rw[zNT] at h1;have hg:g=g':=zNU h1.1;have hw:w=t'.w:=zNU h1.2;subst hg hw;obtain⟨x,hx,h3⟩:=run_bind h2;split at h3
   ·rename_i v hv;have h5:=qBL (h:=h) hx hv;refine⟨v,?_,h5.2.2,h3⟩;simp only[SV.ok] at ha;have hn:n=xs.length:=ha.2 _ _ _ _ _ hk;simp only[SV.enc,fO,zP hk];rw[qY,hn,show spec P (SO.list el gr g w' t' xs).enc.el=false from xZ (ho.list _ _ _ _ _ _ _ hk).2.1];simp only[aA,cond_true,cond_false];exact h5.1
   ·cases h3
  ·cases e
 ·rename_i t' xs j off;obtain⟨x,hx,h3⟩:=run_bind e;split at h3
  ·rename_i v hv;have h5:=qBL (h:=h) hx hv;exact⟨v,by simp only[SV.enc,fO];exact h5.2.1,h5.2.2,h3⟩
  ·cases h3
 ·rename_i k off w;split at e
  ·rename_i el w' l hk;split at e
   ·rename_i ik hik;split at e
    ·rename_i xs hxs hag;obtain⟨h1,h2⟩:=qG e;rw[zNT,zOE] at h1;obtain⟨hsp,h1⟩:=h1;obtain⟨x,hx,h3⟩:=run_bind h2;refine⟨_,?_,by simp[SV.ok],h3⟩;simp only[SV.enc,fO,zP hk];show cond (spec P el) none (cond (Nat.beq w (qC l).length) (aV P t (qC l) off) none)=_;rw[qV,h1,hsp];simp only[cond_true,cond_false];unfold aV;rw[hag];show zL (qC l) off=_;rw[qF,wS hxs,zN9,hx];simp[Ty.fv,fvv]
    ·cases e
   ·cases e
  ·rename_i w' el ik xs hk;obtain⟨v,h1,h2,h3⟩:=qWR (zP hk) e;exact⟨v,by simp only[SV.enc];exact h1,h2,h3⟩
  ·cases e
 ·rename_i k g n w j off;split at e
  ·rename_i el gr g' w' t' xs hk;obtain⟨h1,h2⟩:=qG e;rw[zNT] at h1;have hg:g=g':=zNU h1.1;have hw:w=t'.w:=zNU h1.2;subst hg hw;obtain⟨x,hx,h3⟩:=run_bind h2;split at h3
   ·rename_i ik hik;split at h3
    ·rename_i ys hys hag;obtain⟨z,hz,h4⟩:=run_bind h3;refine⟨_,?_,by simp[SV.ok],h4⟩;have hn1:zL (qC (t'.svs x)) off=some (fvv (.int ik z)):=by rw[qF,wS hys,zN9,hz];rfl
     rw[zA] at hn1;obtain⟨v0,hv0,hv1⟩:=zN4.1 hn1;have hsp:qGD P t (t'.svs x) off=some v0:=by unfold qGD;rw[hag];exact hv0
     have h5:=qBL (h:=h) hx hsp;simp only[SV.ok] at ha;have hn:n=xs.length:=ha.2 _ _ _ _ _ hk;simp only[SV.enc,fO,zP hk];rw[qY,hn,show spec P (SO.list el gr g w' t' xs).enc.el=false from xZ (ho.list _ _ _ _ _ _ _ hk).2.1];simp only[aA,cond_true,cond_false];have h6:=h5.1;rw[hv1] at h6;rw[show (SO.list el gr g w' t' xs).enc.cs=(xs.flatMap t'.cells).map .f from rfl,h6];simp[Ty.fv,fvv]
    ·cases h3
   ·cases h3
  ·cases e
 ·cases e
def Post (P:Program)(h h':SH)(v:SV):Prop:=Keep h h'∧OkH P h'∧v.ok h'
def yO:SV->List SV
 | .agg l=>l
 | v=>[v]
theorem dM (v:SV):zG v.enc=qC (yO v):=by
 cases v <;> simp[SV.enc,zG,yO,qC,fvv];rename_i b _ _ _;cases b <;> rfl
omit [Yl] in
theorem qBM (hv:v.ok h):okL h (yO v):=by
 cases v <;> simp only[yO,okL,SV.ok,and_true] at hv ⊢ <;> exact hv
def qB5 (l:List SV)(i:Nat)(vs:List SV):List SV:=l.take i++vs++l.drop (i+vs.length)
theorem qCQ (l vs:List SV)(i:Nat):qC (qB5 l i vs)=yM (qC l) i (qC vs):=by
 simp[qB5,yM,zH,zPZ,zP6]
omit [Yl] in
theorem qQM {vs:List SV}{i:Nat}(a:okL h l)(b:okL h vs):okL h (qB5 l i vs) :=
 gV (gV (qLV a fun z hz=>zQV hz) b) (qLV a fun z hz=>zQW hz)
omit [Yl] in
theorem qY0 {α:Type}(A B C:List α)(c:List α)(hle:off+c.length<=B.length) :
 (A++B++C).take (A.length+off)++c++(A++B++C).drop (A.length+off+c.length)=A++(B.take off++c++B.drop (off+c.length))++C:=by
 rw[zOT A B C,List.take_append,zOL (by omega),zRL,List.take_append_of_le_length (by omega)];rw[zPQ,List.drop_append,zRO (by omega),zRL,zR3,List.drop_append_of_le_length (by omega)];simp[zOT]
omit [Yl] in
theorem qEI {t:Ty}{xs:List t.sem}{x:t.sem}(hx:xs[j]?=some x)(y:t.sem):(xs.set j y).flatMap t.cells=(xs.take j).flatMap t.cells++t.cells y++(xs.drop (j+1)).flatMap t.cells:=by
 have hl:=(zN0.1 hx).1;rw[zP4,if_pos hl,zQZ,zOK,zOT]
omit [Yl] in
theorem qEP {t:Ty}{xs:List t.sem}{x y:t.sem}(hx:xs[j]?=some x){c:List PV}(hle:off+c.length<=t.w)(hy:yM ((t.cells x).map .f) off c=(t.cells y).map .f) :
 yM ((xs.flatMap t.cells).map .f) (j*t.w+off) c=((xs.set j y).flatMap t.cells).map .f:=by
 have hl:=(zN0.1 hx).1
 have e0:xs.set j x=xs:=by
  apply zPB;intro i;rw[zON];by_cases e:j=i
  ·subst e;rw[if_pos rfl,if_pos hl,hx]
  ·rw[if_neg e]
 have e1:=qEI hx x;rw[e0] at e1;rw[qEI hx y,e1];simp only[zO0];unfold yM;have hA:(((xs.take j).flatMap t.cells).map PV.f).length=j*t.w:=by rw[zN5,zX,zO4,zPK (by omega)]
 rw[<-hA,qY0 _ _ _ _ (by rw[zN5,t.zEN];exact hle)];unfold yM at hy;rw[hy]
def zBI (P:Program)(n off w:Nat)(el:TypeId)(ik:IntKind)(xs:List Int)(k:Nat)(x:SV)(h:SH)(K:SV->SH->zED R):zED R:=cond (spec P el) .fail (match x with
 | .agg l=>(match qB3 ik l with
   | some ys=>cond (Nat.beq off 0&&(Nat.beq n w&&Nat.beq n (List.length l))) (.ite (Nat.beq w (List.length xs)) (K (.tup []) (h.put k fun u=>.spc u (.arr el ik ys))) .fail) .fail
   | none=>.fail)
 | x=>(match q61 ik x with
   | some v=>cond (Nat.beq n 1) (.ite (Nat.beq w (List.length xs)) (.bind (q2L off v xs) fun ys=>K (.tup []) (h.put k fun u=>.spc u (.arr el ik ys))) .fail) .fail
   | none=>.fail))
theorem qIY {ik:IntKind}:∀ {l:List SV} {xs:List Int},qB3 ik l=some xs->xs.length=l.length
 | [],xs,e=>by cases e;rfl
 | v::l,xs,e=>by
   unfold qB3 at e;split at e
   ·rename_i x ys hx hy;cases e;simp[qIY hy]
   ·cases e
theorem qTR {k:Nat}{K:SV->SH->zED R}(ho:OkH P h)(hn:szT P t=some n)(hk:slk k h.l=some (.spc w' (.arr el ik xs)))(e:(zBI P n off w el ik xs k x h K).run=some r) :
 ∃ h',jG P t (.ref k w off) x.enc (qD h.l)=some (qD h'.l)∧Keep h h'∧OkH P h'∧(K (.tup []) h').run=some r:=by
 unfold zBI at e
 cases hsp:spec P el with
 | true=>rw[hsp] at e;cases e
 | false =>
 rw[hsp] at e;simp only[cond_false] at e;have hp:∀ ys:List Int,Keep h (h.put k fun u=>.spc u (.arr el ik ys))∧OkH P (h.put k fun u=>.spc u (.arr el ik ys)):=fun ys=>vL (f:=fun u=>.spc u (.arr el ik ys)) ho hk rfl
 have pre:jG P t (.ref k w off) x.enc (qD h.l)=cond (Nat.beq w xs.length&&(Nat.beq n (zG x.enc).length&&(Nat.ble (off+n) xs.length&&(pnt x.enc&&(zG x.enc).all aF)))) (some (xY k ⟨el,false,yM (xs.map fun x=>fvv (.int ik x)) off (zG x.enc)⟩ (qD h.l))) none:=by
  simp only[jG,zP hk,hn];show cond (spec P el) none (cond (Nat.beq w (xs.map fun x=>fvv (.int ik x)).length&&(Nat.beq n (zG x.enc).length&&(Nat.ble (off+n) (xs.map fun x=>fvv (.int ik x)).length&&(pnt x.enc&&(zG x.enc).all aF)))) _ none)=_;rw[hsp,zN5];rfl
 have fin:∀ ys:List Int,qD (h.put k fun u=>.spc u (.arr el ik ys)).l=xY k ⟨el,false,ys.map fun x=>fvv (.int ik x)⟩ (qD h.l):=fun ys=>xW k _ _
 split at e
 ·rename_i l;split at e
  ·rename_i ys hys;obtain⟨c,e0⟩:=qG e;simp only[zNT] at c;have h0:=zNU c.1;have h1:=zNU c.2.1;have h2:=zNU c.2.2;subst h0
   rcases run_ite e0 with ⟨z,e1⟩ | ⟨_,e1⟩
   ·have hl:=zNU z;refine⟨_,?_,(hp ys).1,(hp ys).2,e1⟩;rw[pre,fin ys];have hle:=qIY hys;simp only[SV.enc,zG,wS hys,zN5];rw[z,show Nat.beq n ys.length=true by rw[hle,<-h2];exact aA _,show Nat.ble (0+n) xs.length=true from zOA (by omega),show ((ys.map fun x=>fvv (.int ik x)).all aF)=true by simp[zNW,fvv,aF]];simp only[pnt,zOS,cond_true];unfold yM;rw[List.take_zero,zRO (by simp only[zN5];omega)];simp
   ·cases e1
  ·cases e
 ·split at e
  ·rename_i v hv;obtain⟨c,e0⟩:=qG e;have h1:=zNU c;subst h1
   rcases run_ite e0 with ⟨z,e1⟩ | ⟨_,e1⟩
   ·obtain⟨ys,hys,e2⟩:=run_bind e1;unfold q2L at hys;split at hys
    case isFalse=>cases hys
    rename_i hlt;cases hys;refine⟨_,?_,(hp _).1,(hp _).2,e2⟩;rw[pre,fin,nT hv];rw[show Nat.ble (off+1) xs.length=true from zOA hlt,z];show some (xY k ⟨el,false,yM (xs.map fun x=>fvv (.int ik x)) off [fvv (.int ik v)]⟩ (qD h.l))=_
    have:yM (xs.map fun x=>fvv (.int ik x)) off [fvv (.int ik v)]=(xs.set off v).map fun x=>fvv (.int ik x):=by
     rw[List.map_set,zP4,if_pos (by rw[zN5];exact hlt)];unfold yM;simp
    rw[this]
   ·cases e1
  ·cases e
def qWL (P:Program)(t:TypeId)(a x:SV)(h:SH)(K:SV->SH->zED R):zED R:=match szT P t with
 | some n=>(match a with
   | .ref k off w=>(match slk k h.l with
     | some (.cells el _ l)=>cond (!(spec P el)&&(Nat.beq w l.length&&(Nat.beq n (yO x).length&&(Nat.ble (off+n) l.length&&(pnt x.enc&&(qC (yO x)).all aF)))))
        (K (.tup []) (h.put k fun v=>.cells el v (qB5 l off (yO x)))) .fail
     | some (.spc _ (.arr el ik xs))=>zBI P n off w el ik xs k x h K
     | _=>.fail)
   | .elt k g m w j off=>(match slk k h.l with
     | some (.list el gr g' _ t' xs)=>cond (Nat.beq g g'&&(Nat.beq w t'.w&&(Nat.beq n (yO x).length&&(Nat.ble (off+n) w&&(pnt x.enc&&(qC (yO x)).all aF)))))
        (.bind (xs[j]?) fun y=>match t'.zG2 (qB5 (t'.svs y) off (yO x)) with
          | some z=>K (.tup []) (h.put k fun v=>.list el gr g v t' (List.set xs j z))
          | none=>.fail) .fail
     | _=>.fail)
   | .rfx k off w=>(match slk k h.l with
     | some (.cells el _ l)=>(match zA0 l with
       | some ik=>(match qB3 ik l,q61 ik x with
         | some xs,some v=>cond (!(spec P el)&&(Nat.beq w l.length&&Nat.beq n 1)) (.bind (q2L off v xs) fun ys=>K (.tup []) (h.put k fun u=>.cells el u (spread ik (List.length xs) ys))) .fail
         | _,_=>.fail)
       | none=>.fail)
     | some (.spc _ (.arr el ik xs))=>zBI P n off w el ik xs k x h K
     | _=>.fail)
   | .etx k g m w j off=>(match slk k h.l with
     | some (.list el gr g' _ t' xs)=>cond (Nat.beq g g'&&(Nat.beq w t'.w&&Nat.beq n 1)) (.bind (xs[j]?) fun y=>match zA0 (t'.svs y) with
       | some ik=>(match qB3 ik (t'.svs y),q61 ik x with
         | some ys,some v=>.bind (q2L off v ys) fun zs=>match t'.zG2 (spread ik (List.length ys) zs) with
           | some z=>K (.tup []) (h.put k fun v=>.list el gr g v t' (List.set xs j z))
           | none=>.fail
         | _,_=>.fail)
       | none=>.fail) .fail
     | _=>.fail)
   | _=>.fail)
 | none=>.fail
theorem qTE {a:SV}{K:SV->SH->zED R}(ho:OkH P h)(ha:a.ok h)(hx:x.ok h)(e:(qWL P t a x h K).run=some r) :
 ∃ h',jG P t a.enc x.enc (qD h.l)=some (qD h'.l)∧Keep h h'∧OkH P h'∧(K (.tup []) h').run=some r:=by
 unfold qWL at e;split at e
 ·rename_i n hn;split at e
  ·rename_i k off w;split at e
   ·rename_i el w' l hk;obtain⟨h1,h2⟩:=qG e;rw[zNT,zOE] at h1;obtain⟨hsp,h1⟩:=h1;have hp:=vL (f:=fun v=>.cells el v (qB5 l off (yO x))) ho hk ⟨rfl,qQM (ho.cells _ _ _ _ hk) (qBM hx)⟩;refine⟨_,?_,hp.1,hp.2,h2⟩;simp only[SV.enc,jG,zP hk,hn];show cond (spec P el) none (cond (Nat.beq w (qC l).length&&(Nat.beq n (zG x.enc).length&&(Nat.ble (off+n) (qC l).length&&(pnt x.enc&&(zG x.enc).all aF)))) _ _)=_;rw[dM,qV,qV,h1,hsp];simp only[cond_true];rw[show qD (h.put k fun v=>.cells el v (qB5 l off (yO x))).l=xY k (SO.enc (.cells el h.next (qB5 l off (yO x)))) (qD h.l) from xW k _ _];show some (xY k ⟨el,false,yM (qC l) off (qC (yO x))⟩ (qD h.l))=some (xY k ⟨el,false,qC (qB5 l off (yO x))⟩ (qD h.l));rw[qCQ]
   ·rename_i w' el ik xs hk;obtain⟨h',h1,h2,h3,h4⟩:=qTR (t:=t) ho hn hk e;exact⟨h',by simp only[SV.enc];exact h1,h2,h3,h4⟩
   ·cases e
  ·rename_i k g m w j off;split at e
   ·rename_i el gr g' w' t' xs hk;obtain⟨h1,h2⟩:=qG e;simp only[zNT] at h1;obtain⟨q1,q2,q3,q4,q5,q6⟩:=h1;have hg:g=g':=zNU q1;have hw:w=t'.w:=zNU q2;subst hg hw;obtain⟨y,hy,h3⟩:=run_bind h2;split at h3
    ·rename_i z hz;have hp:=vL (f:=fun v=>.list el gr g v t' (List.set xs j z)) ho hk ⟨_,rfl,by simp⟩;refine⟨_,?_,hp.1,hp.2,h3⟩;simp only[SV.ok] at ha;have hm:m=xs.length:=ha.2 _ _ _ _ _ hk;have hle:off+n<=t'.w:=zN3 q4;simp only[SV.enc,jG,zP hk,hn];rw[qY,hm,dM,qV,show spec P (SO.list el gr g w' t' xs).enc.el=false from xZ (ho.list _ _ _ _ _ _ _ hk).2.1]
     have hjl:j*t'.w+off+n<=xs.length*t'.w:=by
      have:=qFQ hy hle
      rwa [zX] at this
     rw[q3,q5,q6,show Nat.ble (j*t'.w+off+n) (xs.length*t'.w)=true from zOA hjl];simp only[aA,zOS,cond_true,cond_false];rw[show qD (h.put k fun v=>.list el gr g v t' (List.set xs j z)).l=xY k (SO.enc (.list el gr g h.next t' (List.set xs j z))) (qD h.l) from xW k _ _];show some (xY k ⟨el,gr,yM ((xs.flatMap t'.cells).map .f) (j*t'.w+off) (qC (yO x))⟩ (qD h.l))=some (xY k ⟨el,gr,((List.set xs j z).flatMap t'.cells).map .f⟩ (qD h.l));have hnl:n=(qC (yO x)).length:=by rw[qV];exact zNU q3
     rw[qEP hy (y:=z) (by rw[<-hnl];exact hle) (by rw[<-gW,<-qCQ];exact nL hz)]
    ·cases h3
   ·cases e
  ·rename_i k off w;split at e
   ·rename_i el w' l hk;split at e
    ·rename_i ik hik;split at e
     ·rename_i xs v hxs hv;obtain⟨h1,h2⟩:=qG e;simp only[zNT,zOE] at h1;obtain⟨hsp,hw,hn1⟩:=h1;have hn2:=zNU hn1;subst hn2;obtain⟨ys,hys,h3⟩:=run_bind h2;unfold q2L at hys;split at hys
      case isFalse=>cases hys
      rename_i hlt;cases hys;have hp:=vL (f:=fun u=>.cells el u (spread ik (List.length xs) (xs.set off v))) ho hk ⟨rfl,qKP⟩;refine⟨_,?_,hp.1,hp.2,h3⟩;have hel:=wS hxs;have hll:(qC l).length=xs.length:=by rw[hel,zN5]
      simp only[SV.enc,jG,zP hk,hn];rw[nT hv];show cond (spec P el) none (cond (Nat.beq w (qC l).length&&(Nat.beq 1 1&&(Nat.ble (off+1) (qC l).length&&(true&&true)))) (some (xY k ⟨el,false,yM (qC l) off [fvv (.int ik v)]⟩ (qD h.l))) none)=_;rw[hsp,show Nat.beq w (qC l).length=true by rw[qV];exact hw,hll,show Nat.ble (off+1) xs.length=true from zOA hlt];rw[show qD (h.put k fun u=>.cells el u (spread ik (List.length xs) (xs.set off v))).l=xY k (SO.enc (.cells el h.next (spread ik (List.length xs) (xs.set off v)))) (qD h.l) from xW k _ _];show some (xY k ⟨el,false,yM (qC l) off [fvv (.int ik v)]⟩ (qD h.l))=some (xY k ⟨el,false,qC (spread ik (List.length xs) (xs.set off v))⟩ (qD h.l));rw[rO (by simp),hel]
      have:yM (xs.map fun x=>fvv (.int ik x)) off [fvv (.int ik v)]=(xs.set off v).map fun x=>fvv (.int ik x):=by
       rw[List.map_set,zP4,if_pos (by rw[zN5];exact hlt)];unfold yM;simp
      rw[this]
     ·cases e
    ·cases e
   ·rename_i w' el ik xs hk;obtain⟨h',h1,h2,h3,h4⟩:=qTR (t:=t) ho hn hk e;exact⟨h',by simp only[SV.enc];exact h1,h2,h3,h4⟩
   ·cases e
  ·rename_i k g m w j off;split at e
   ·rename_i el gr g' w' t' xs hk;obtain⟨h1,h2⟩:=qG e;simp only[zNT] at h1;obtain⟨q1,q2,q3⟩:=h1;have hg:g=g':=zNU q1;have hw:w=t'.w:=zNU q2;have hn2:=zNU q3;subst hg hw hn2;obtain⟨y,hy,h3⟩:=run_bind h2;split at h3
    ·rename_i ik hik;split at h3
     ·rename_i ys v hys hv;obtain⟨zs,hzs,h4⟩:=run_bind h3;split at h4
      ·rename_i z hz;unfold q2L at hzs;split at hzs
       case isFalse=>cases hzs
       rename_i hlt;cases hzs;have hp:=vL (f:=fun v=>.list el gr g v t' (List.set xs j z)) ho hk ⟨_,rfl,by simp⟩;refine⟨_,?_,hp.1,hp.2,h4⟩;simp only[SV.ok] at ha;have hm:m=xs.length:=ha.2 _ _ _ _ _ hk;have hel:=wS hys
       have hcw:ys.length=t'.w:=by
        have:=congrArg List.length hel;rw[gW,zN5,zN5,t'.zEN] at this;exact this.symm
       have hle:off+1<=t'.w:=by omega
       simp only[SV.enc,jG,zP hk,hn];rw[qY,hm,nT hv,show spec P (SO.list el gr g w' t' xs).enc.el=false from xZ (ho.list _ _ _ _ _ _ _ hk).2.1]
       have hjl:j*t'.w+off+1<=xs.length*t'.w:=by
        have:=qFQ hy hle
        rwa [zX] at this
       rw[show Nat.ble (j*t'.w+off+1) (xs.length*t'.w)=true from zOA hjl];simp only[aA,cond_false];show some (xY k ⟨el,gr,yM ((xs.flatMap t'.cells).map .f) (j*t'.w+off) [fvv (.int ik v)]⟩ (qD h.l))=_;rw[show qD (h.put k fun v=>.list el gr g v t' (List.set xs j z)).l=xY k (SO.enc (.list el gr g h.next t' (List.set xs j z))) (qD h.l) from xW k _ _];show _=some (xY k ⟨el,gr,((List.set xs j z).flatMap t'.cells).map .f⟩ (qD h.l));rw[qEP hy (y:=z) hle ?_];rw[<-nL hz,rO (by simp),<-gW,hel,List.map_set,zP4,if_pos (by rw[zN5];exact hlt)];unfold yM;simp
      ·cases h4
     ·cases h3
    ·cases h3
   ·cases e
  ·cases e
 ·cases e
end
end Go.Sv
namespace Go.Sv
open Go.Idl
noncomputable section
variable [Gc]
variable [Yl]
variable {P:Program}{h:SH}{R:Type}{r:R}
def tyL:List (Option Ty)->Option Ty
 | []=>some .unit
 | [t]=>t.map fun t=>.pair t .unit
 | [a,b]=>match a,b with
   | some a,some b=>some (.pair a b)
   | _,_=>none
 | a::l=>match a,tyL l with
   | some a,some b=>some (.pair a b)
   | _,_=>none
def zDK (P:Program)(t:TypeId):Option Ty:=match P.underlying t with
 | some (.slice el)=>(match P.underlying el with
   | some (.int k)=>some (.ol el k)
   | _=>none)
 | _=>none
def qDM (P:Program):Nat->TypeId->Option Ty
 | 0,_=>none
 | n+1,t=>match P.underlying t with
   | some (.int k)=>some (.int k)
   | some .bool=>some .bool
   | some .string=>some .str
   | some (.slice el)=>(match qDM P n el with
     | some u=>some (.list el u)
     | none=>none)
   | some (.struct fields)=>tyL (fields.toList.map fun f=>cond (Gc.ol f.type) (zDK P f.type) (qDM P n f.type))
   | some (.array k el)=>tyL (List.replicate k (qDM P n el))
   | some (.interface ..)=>some .nif
   | _=>none
def zcS (P:Program)(t:TypeId):Option (List SV):=match qB4 P t with
 | some z=>cond (jX okC z.cells.toList) (some (kR .c z.cells.toList)) none
 | none=>none
theorem eX {t:TypeId}{l:List SV}(e:zcS P t=some l):zc P t=some (qC l)∧okL h l:=by
 unfold zcS at e;unfold zc;split at e
 ·rename_i z hz
  cases hc:jX okC z.cells.toList with
  | false=>rw[hc] at e;cases e
  | true =>
    rw[hc] at e;cases e;rw[hz];simp only[hc,cond_true];exact⟨by rw[zBL],zA7 _⟩
 ·cases e
def zB7 (P:Program)(el:TypeId)(l:List SV):Option (Nat×IntKind×List Int):=match qPQ P el with
 | some (m,e2)=>(match qDM P 8 e2 with
   | some (.int ik)=>(match qB3 ik l with
     | some xs=>cond (Nat.beq l.length m) (some (m,ik,xs)) none
     | none=>none)
   | _=>none)
 | none=>none
theorem qPO {el:TypeId}{l:List SV}{p:Nat×IntKind×List Int}(e:zB7 P el l=some p):qC l=(p.2.2.map fun x=>fvv (.int p.2.1 x))∧l.length=p.1:=by
 unfold zB7 at e;split at e
 ·split at e
  ·split at e
   ·rename_i xs hx;obtain⟨hc,e⟩:=nZ e;cases e;exact⟨wS hx,zNU hc⟩
   ·cases e
  ·cases e
 ·cases e
def qUN (P:Program)(el:TypeId)(k:Nat)(h:SH)(K:SV->SH->zED R):zED R:=match zcS P el with
 | some l=>cond (spec P el) .fail (match zB7 P el l with
   | some p=>K (.ref k 0 p.1) (h.new k fun v=>.spc v (.arr el p.2.1 p.2.2))
   | none=>K (.ref k 0 l.length) (h.new k fun v=>.cells el v l))
 | none=>.fail
theorem qUJ {el:TypeId}{k:Nat}{K:SV->SH->zED R}(ho:OkH P h)(e:(qUN P el k h K).run=some r):∃ v h',dU P el k (qD h.l)=some (v.enc,qD h'.l)∧Post P h h' v∧(K v h').run=some r:=by
 unfold qUN at e;split at e
 ·rename_i l hl;obtain⟨h1,h2⟩:=eX (h:=h) hl;have hp:=xE (k:=k) (f:=fun v=>.cells el v l) ho ⟨rfl,h2⟩
  cases hsp:spec P el with
  | true=>rw[hsp] at e;cases e
  | false =>
  rw[hsp] at e;simp only[cond_false] at e;split at e
  ·rename_i p hpa;have hp:=xE (k:=k) (f:=fun v=>.spc v (.arr el p.2.1 p.2.2)) ho rfl;refine⟨_,_,?_,⟨hp.1,hp.2,by simp[SV.ok]⟩,e⟩;simp only[dU,h1,qDD,SV.enc,qV,hsp,cond_false];rw[<- (qPO hpa).2,(qPO hpa).1];rfl
  ·refine⟨_,_,?_,⟨hp.1,hp.2,by simp[SV.ok]⟩,e⟩;simp only[dU,h1,qDD,SV.enc,qV,hsp,cond_false];rfl
 ·cases e
def zDO (P:Program)(el:TypeId)(v:SV)(k:Nat)(h:SH)(K:SV->SH->zED R):zED R :=
 cond (!(spec P el)&&(pnt v.enc&&(qC (yO v)).all aF)) (K (.ref k 0 (yO v).length) (h.new k fun n=>.cells el n (yO v))) .fail
theorem q43 {el:TypeId}{v:SV}{k:Nat}{K:SV->SH->zED R}(ho:OkH P h)(hv:v.ok h)(e:(zDO P el v k h K).run=some r):∃ x h',qZW P el v.enc k (qD h.l)=some (x.enc,qD h'.l)∧Post P h h' x∧(K x h').run=some r:=by
 obtain⟨h1,h2⟩:=qG e;have hp:=xE (k:=k) (f:=fun n=>.cells el n (yO v)) ho ⟨rfl,qBM hv⟩;refine⟨_,_,?_,⟨hp.1,hp.2,by simp[SV.ok]⟩,h2⟩;unfold qZW;rw[dM,h1];simp only[cond_true,qDD,SV.enc,qV];rfl
def qST (place:Nat->Option (Nat×Nat)):List SV->List (Nat×SV)->Option (List SV)
 | cells,[]=>some cells
 | cells,(i,v)::rest=>match place i with
   | some (off,size)=>cond (Nat.beq (yO v).length size&&(Nat.ble (off+size) cells.length&&(pnt v.enc&&(qC (yO v)).all aF))) (qST place (qB5 cells off (yO v)) rest) none
   | none=>none
def q7Y (l:List (Nat×SV)):List (Nat×PV):=l.map fun p=>(p.1,p.2.enc)
theorem oM {place:Nat->Option (Nat×Nat)}:∀ {l cs:List SV} {parts:List (Nat×SV)},qST place l parts=some cs->qKI place (qC l) (q7Y parts)=some (qC cs)∧(okL h l->(∀ p∈parts,p.2.ok h)->okL h cs)
 | l,cs,[],e=>by cases e;exact⟨rfl,fun a _=>a⟩
 | l,cs,(i,v)::rest,e=>by
   unfold qST at e;split at e
   ·rename_i off size hpl
    cases hc:(Nat.beq (yO v).length size&&(Nat.ble (off+size) l.length&&(pnt v.enc&&(qC (yO v)).all aF))) with
    | false=>rw[hc] at e;cases e
    | true =>
      rw[hc] at e;obtain⟨h1,h2⟩:=oM (l:=qB5 l off (yO v)) e;refine⟨?_,fun a b=>h2 (qQM a (qBM (b _ zN1))) fun p hp=>b p (zNZ _ hp)⟩
      show (match place i with
       | some (off,size)=>cond (Nat.beq (zG v.enc).length size&&(Nat.ble (off+size) (qC l).length&&(pnt v.enc&&(zG v.enc).all aF))) (qKI place (yM (qC l) off (zG v.enc)) (q7Y rest)) none
       | none=>none)=some (qC cs)
      rw[hpl];simp only;rw[dM,qV,qV,hc,<-qCQ];exact h1
   ·cases e
def qTZ (P:Program)(t:TypeId)(parts:List (Nat×SV)):Option SV:=match zcS P t with
 | some z=>cond (qBW P t) (match qST (qXN P t) z parts with
   | some cs=>some (.agg cs)
   | none=>none) none
 | none=>none
theorem qVW {t:TypeId}{parts:List (Nat×SV)}{v:SV}(hp:∀ p∈parts,p.2.ok h)(e:qTZ P t parts=some v):qKH P t (q7Y parts)=some v.enc∧v.ok h:=by
 unfold qTZ at e;split at e
 ·rename_i z hz;obtain⟨h1,h2⟩:=eX (h:=h) hz
  cases hb:qBW P t with
  | false=>rw[hb] at e;cases e
  | true =>
    rw[hb] at e;simp only[cond_true] at e;split at e
    ·rename_i cs hcs;cases e;obtain⟨h3,h4⟩:=oM (h:=h) hcs;simp only[qKH,h1,hb,cond_true,h3,SV.enc,SV.ok,true_and];exact h4 h2 hp
    ·cases e
 ·cases e
def Ty.zIT (t:Ty):Nat->List SV->Option (List t.sem)
 | 0,[]=>some []
 | 0,_::_=>none
 | n+1,l=>match t.zHE l with
   | some (x,l')=>(match t.zIT n l' with
     | some xs=>some (x::xs)
     | none=>none)
   | none=>none
theorem qN7 {t:Ty}:∀ {n:Nat} {l:List SV} {xs:List t.sem},t.zIT n l=some xs->qC l=(xs.flatMap t.cells).map .f∧xs.length=n
 | 0,[],xs,e=>by cases e;simp[qC]
 | 0,_::_,xs,e=>by cases e
 | n+1,l,xs,e=>by
   unfold Ty.zIT at e;split at e
   ·rename_i x l' hx;split at e
    ·rename_i ys hy;cases e;obtain⟨h1,h2⟩:=qN7 hy;rw[tV hx,h1,zOK,zO0];exact⟨rfl,by rw[zOI,h2]⟩
    ·cases e
   ·cases e
def qRR (n:Nat)(z:List SV):List SV:=(List.replicate n z).flatten
theorem qAB (n:Nat)(z:List SV):qC (qRR n z)=qHN n (qC z):=by simp[qRR,qHN,zH,List.map_flatten]
def mU (P:Program)(t:TypeId)(len:Nat)(parts:List (Nat×SV))(k:Nat)(h:SH)(K:SV->SH->zED R):zED R:=match zT P t with
 | some el=>(match szT P el,zcS P el,qDM P 8 el with
   | some (s+1),some z,some ty=>cond (Nat.beq ty.w (s+1)) (cond (Nat.beq z.length (s+1)&&Nat.ble (len*(s+1)) 65536) (match qST (fun i=>some (i*(s+1),s+1)) (qRR len z) parts with
     | some cs=>(match ty.zIT len cs with
       | some xs=>K (.own k h.next len) (h.new k fun v=>.list el false v v ty xs)
       | none=>K (.own k h.next len) (h.new k fun v=>.cells el v cs))
     | none=>.fail) .fail) .fail
   | some (s+1),some z,none=>cond (Nat.beq z.length (s+1)&&Nat.ble (len*(s+1)) 65536) (match qST (fun i=>some (i*(s+1),s+1)) (qRR len z) parts with
     | some cs=>K (.own k h.next len) (h.new k fun v=>.cells el v cs)
     | none=>.fail) .fail
   | _,_,_=>.fail)
 | none=>.fail
omit [Yl] in
theorem wR {el:TypeId}{gr:Bool}{k n:Nat}{ty:Ty}{xs:List ty.sem}(hn:n=xs.length):(SV.own k h.next n).ok (h.new k fun v=>.list el gr v v ty xs):=by
 simp only[SV.ok];refine⟨zOO _,fun el' gr' w' t' xs' hk=>?_⟩;rw[show slk k (h.new k fun v=>.list el gr v v ty xs).l=some (.list el gr h.next h.next ty xs) from jB] at hk;cases hk;exact hn
theorem qCY {t:TypeId}{len k:Nat}{parts:List (Nat×SV)}{K:SV->SH->zED R}(ho:OkH P h)(hp:∀ p∈parts,p.2.ok h)(e:(mU P t len parts k h K).run=some r) :
 ∃ v h',yA P t len (q7Y parts) k (qD h.l)=some (v.enc,qD h'.l)∧Post P h h' v∧(K v h').run=some r:=by
 unfold mU at e;split at e
 ·rename_i el hel;split at e
  ·rename_i s z ty hs hz hty;obtain⟨e1,e⟩:=qG e;obtain⟨e2,e⟩:=qG e;split at e
   ·rename_i cs hcs;split at e
    ·rename_i xs hxs;obtain⟨z1,z2⟩:=eX (h:=h) hz;obtain⟨f1,f2⟩:=oM (h:=h) hcs;obtain⟨d1,d2⟩:=qN7 hxs;have hw:ty.w=s+1:=zNU e1;have hn:=xE (k:=k) (f:=fun v=>.list el false v v ty xs) ho ⟨rfl,rfl,by rw[hs,hw],by omega⟩;refine⟨_,_,?_,⟨hn.1,hn.2,wR d2.symm⟩,e⟩;rw[qAB] at f1;simp only[yA,hel,hs,z1,qV,e2,cond_true,f1,qDD,SV.enc,d1];rfl
    ·obtain⟨z1,z2⟩:=eX (h:=h) hz;obtain⟨f1,f2⟩:=oM (h:=h) hcs
     have zH1:okL h cs:=f2 (zM.2 fun x hx=>by
      unfold qRR at hx;obtain⟨l,hl,hx⟩:=zQY.1 hx;rw[zRJ hl] at hx
      exact zM.1 z2 x hx) hp
     have hn:=xE (k:=k) (f:=fun v=>.cells el v cs) ho ⟨rfl,zH1⟩;refine⟨_,_,?_,⟨hn.1,hn.2,?_⟩,e⟩
     ·rw[qAB] at f1;simp only[yA,hel,hs,z1,qV,e2,cond_true,f1,qDD,SV.enc];rfl
     ·simp only[SV.ok];refine⟨zOO _,fun el' gr' w' t' xs' hk=>?_⟩;rw[show slk k (h.new k fun v=>.cells el v cs).l=some (.cells el h.next cs) from jB] at hk;cases hk
   ·cases e
  ·rename_i s z hs hz hty;obtain⟨e2,e⟩:=qG e;split at e
   ·rename_i cs hcs;obtain⟨z1,z2⟩:=eX (h:=h) hz;obtain⟨f1,f2⟩:=oM (h:=h) hcs
    have zH1:okL h cs:=f2 (zM.2 fun x hx=>by
     unfold qRR at hx;obtain⟨l,hl,hx⟩:=zQY.1 hx;rw[zRJ hl] at hx
     exact zM.1 z2 x hx) hp
    have hn:=xE (k:=k) (f:=fun v=>.cells el v cs) ho ⟨rfl,zH1⟩;refine⟨_,_,?_,⟨hn.1,hn.2,?_⟩,e⟩
    ·rw[qAB] at f1;simp only[yA,hel,hs,z1,qV,e2,cond_true,f1,qDD,SV.enc];rfl
    ·simp only[SV.ok];refine⟨zOO _,fun el' gr' w' t' xs' hk=>?_⟩;rw[show slk k (h.new k fun v=>.cells el v cs).l=some (.cells el h.next cs) from jB] at hk;cases hk
   ·cases e
  ·cases e
 ·cases e
def q6Q (P:Program)(t:TypeId)(l:SV)(k:Nat)(h:SH)(K:SV->SH->zED R):zED R:=match zT P t,asI l with
 | some el,some (_,n)=>cond (zT P el).isSome (match szT P el,zcS P el with
   | some (s+1),some z=>cond (kT P el&&Nat.beq z.length (s+1)) (.bind (mkN n) fun N=>K (.own k h.next N) (h.new k fun v=>.cells el v (qRR N z))) .fail
   | _,_=>.fail) (match szT P el,zcS P el,qDM P 8 el with
   | some (s+1),some z,some ty=>cond (kT P el&&(Nat.beq z.length (s+1)&&Nat.beq ty.w (s+1))) (match ty.zG2 z with
     | some z0=>.bind (mkN n) fun N=>K (.own k h.next N) (h.new k fun v=>.list el false v v ty (List.replicate N z0))
     | none=>.fail) .fail
   | _,_,_=>.fail)
 | _,_=>.fail
omit [Yl] in
theorem qPC {t:Ty}{z:t.sem}:∀ (n:Nat),((List.replicate n z).flatMap t.cells).map PV.f=qHN n ((t.cells z).map .f)
 | 0=>rfl
 | n+1=>by
   rw[zPP,zOK,zO0,qPC n];simp[qHN,zPP]
theorem q04 {t:TypeId}{l:SV}{k:Nat}{K:SV->SH->zED R}(ho:OkH P h)(e:(q6Q P t l k h K).run=some r) :
 ∃ v h',xC P t l.enc l.enc k (qD h.l)=some (v.enc,qD h'.l)∧Post P h h' v∧(K v h').run=some r:=by
 unfold q6Q at e;split at e
 ·rename_i el ki n hel hl
  cases hb:(zT P el).isSome with
  | true =>
    rw[hb] at e;simp only[cond_true] at e;split at e
    ·rename_i s z hs hz;obtain⟨e1,e⟩:=qG e;obtain⟨N,hN,e⟩:=run_bind e;obtain⟨z1,z2⟩:=eX (h:=h) hz
     have zH1:okL h (qRR N z):=zM.2 fun x hx=>by
      unfold qRR at hx;obtain⟨l,hl,hx⟩:=zQY.1 hx;rw[zRJ hl] at hx;exact zM.1 z2 x hx
     have hn:=xE (k:=k) (f:=fun v=>.cells el v (qRR N z)) ho ⟨rfl,zH1⟩;refine⟨_,_,?_,⟨hn.1,hn.2,?_⟩,e⟩
     ·rw[yI hl];simp only[xC,fvv,hel,decide_true,cond_true,hN,hs,z1,qV,e1,qDD,SV.enc];show some (PV.own k N 0 N,(k,(⟨el,false,qHN N (qC z)⟩:PO))::qD h.l)=some (PV.own k N 0 N,(k,⟨el,false,qC (qRR N z)⟩)::qD h.l);rw[qAB]
     ·simp only[SV.ok];refine⟨zOO _,fun el' gr' w' t' xs' hk=>?_⟩;rw[show slk k (h.new k fun v=>.cells el v (qRR N z)).l=some (.cells el h.next (qRR N z)) from jB] at hk;cases hk
    ·cases e
  | false =>
  rw[hb] at e;simp only[cond_false] at e;split at e
  ·rename_i s z ty hs hz hty;obtain⟨e1,e⟩:=qG e;simp only[zNT] at e1;obtain⟨q1,q2,q3⟩:=e1;split at e
   ·rename_i z0 hz0;obtain⟨N,hN,e⟩:=run_bind e;obtain⟨z1,z2⟩:=eX (h:=h) hz;have hw:ty.w=s+1:=zNU q3;have hn:=xE (k:=k) (f:=fun v=>.list el false v v ty (List.replicate N z0)) ho ⟨rfl,rfl,by rw[hs,hw],by omega⟩;refine⟨_,_,?_,⟨hn.1,hn.2,wR (xs:=List.replicate N z0) (by simp)⟩,e⟩;rw[yI hl];simp only[xC,fvv,hel,decide_true,cond_true,hN,hs,z1,qV,q1,q2,zOS,qDD,SV.enc];show some (PV.own k N 0 N,(k,(⟨el,false,qHN N (qC z)⟩:PO))::qD h.l)=some (PV.own k N 0 N,(k,⟨el,false,((List.replicate N z0).flatMap ty.cells).map PV.f⟩)::qD h.l);rw[qPC,nL hz0]
   ·cases e
  ·cases e
 ·cases e
def qX7 (h:SH):SV->Bool
 | .ref k _ w=>match slk k h.l with
   | some (.cells _ _ l)=>Nat.beq w l.length
   | _=>false
 | .elt k g _ w _ _=>match slk k h.l with
   | some (.list _ _ g' _ t _)=>Nat.beq g g'&&Nat.beq w t.w
   | _=>false
 | .lp _ _ _ _=>true
 | _=>false
theorem qGJ {k off w:Nat}(e:qX7 h (.ref k off w)=true):live? k w (qD h.l)=true:=by
 simp only[qX7] at e;split at e
 ·rename_i el w' l hk;unfold live?;rw[zP hk];show Nat.beq w (qC l).length=true;rw[qV];exact e
 ·cases e
theorem qE6 {k g n w j off:Nat}(ho:(SV.elt k g n w j off).ok h)(e:qX7 h (.elt k g n w j off)=true):live? k (n*w) (qD h.l)=true:=by
 simp only[qX7] at e;split at e
 ·rename_i el gr g' w' t xs hk;rw[zNT] at e;have hg:g=g':=zNU e.1;have hw:w=t.w:=zNU e.2;subst hg hw;simp only[SV.ok] at ho;unfold live?;rw[zP hk];show Nat.beq (n*t.w) (SO.list el gr g w' t xs).enc.cs.length=true;rw[qY,ho.2 _ _ _ _ _ hk];exact aA _
 ·cases e
def q46 (h:SH)(x:SV)(T:zED R):zED R:=match x with
 | .ref k _ w=>(match slk k h.l with
   | some (.spc _ (.arr _ _ xs))=>.ite (Nat.beq w (List.length xs)) T .fail
   | some (.cells _ _ l)=>cond (Nat.beq w l.length) T .fail
   | _=>.fail)
 | x=>cond (qX7 h x) T .fail
theorem q0E {x:SV}{T:zED R}(e:(q46 h x T).run=some r):T.run=some r∧(∀ k o w,x=.ref k o w->live? k w (qD h.l)=true)∧(∀ k g n w j o,x=.elt k g n w j o->qX7 h x=true):=by
 unfold q46 at e;split at e
 ·rename_i k o w;split at e
  ·rename_i w' el ik xs hk
   rcases run_ite e with ⟨z,e1⟩ | ⟨_,e1⟩
   ·refine⟨e1,fun k' o' w2 h=>?_,fun _ _ _ _ _ _ h=>by cases h⟩;cases h;unfold live?;rw[zP hk];show Nat.beq w (xs.map fun x=>fvv (.int ik x)).length=true;rw[zN5];exact z
   ·cases e1
  ·rename_i el w' l hk;obtain⟨z,e1⟩:=qG e;refine⟨e1,fun k' o' w2 h=>?_,fun _ _ _ _ _ _ h=>by cases h⟩;cases h;exact qGJ (off:=o) (by simp only[qX7,hk];exact z)
  ·cases e
 ·rename_i hne;obtain⟨z,e1⟩:=qG e;exact⟨e1,fun k o w h=>absurd h (hne k o w),fun _ _ _ _ _ _ _=>z⟩
def qNS (n:Nat):SV->SV
 | .ref k off w=>.ref k (off+n) w
 | .elt k g m w j off=>.elt k g m w j (off+n)
 | .lp t xs j off=>.lp t xs j (off+n)
 | v=>v
def zC5:SV->Bool
 | .ref _ _ _=>true
 | .elt _ _ _ _ _ _=>true
 | .lp _ _ _ _=>true
 | _=>false
omit [Yl] in
theorem qX0 {n:Nat}{v:SV}(hv:v.ok h):(qNS n v).ok h:=by
 cases v <;> simp only[qNS,SV.ok] at hv ⊢ <;> exact hv
def p9 (P:Program)(t:TypeId)(x:SV)(i:Nat)(h:SH):Option SV:=match zBF P t i with
 | some (off,ft)=>(match szT P ft with
   | some (_+1)=>cond (qX7 h x) (some (qNS off x)) none
   | _=>none)
 | none=>none
theorem qFU {t:TypeId}{x v:SV}{i:Nat}(hx:x.ok h)(e:p9 P t x i h=some v):zZ P t x.enc i (qD h.l)=some v.enc∧v.ok h:=by
 unfold p9 at e;unfold zZ;split at e
 ·rename_i off ft hf;split at e
  ·rename_i s hs
   cases hl:qX7 h x with
   | false=>rw[hl] at e;cases e
   | true =>
     rw[hl] at e;cases e;refine⟨?_,qX0 hx⟩;simp only[hf,hs]
     cases x with
     | ref k o w=>simp only[SV.enc,qNS,qGJ hl,cond_true]
     | elt k g n w j o=>simp only[SV.enc,qNS,qE6 hx hl,cond_true,zPQ]
     | lp t xs j o=>simp only[SV.enc,qNS,zPQ]
     | _=>cases hl
  ·cases e
 ·cases e
def zBZ (n:Nat)(ix:SV)(K:Nat->zED R):zED R:=match ix with
 | .c (.int _ i)=>(match idx n i with
   | some j=>K j
   | none=>.fail)
 | v=>(match asI v with
   | some (_,i)=>.bind (idx n i) K
   | none=>.fail)
theorem q6X {n:Nat}{ix:SV}{K:Nat->zED R}(e:(zBZ n ix K).run=some r):∃ k i j,ix.enc=fvv (.int k i)∧idx n i=some j∧(K j).run=some r:=by
 unfold zBZ at e;split at e
 ·rename_i k i;split at e
  ·rename_i j hj;exact⟨k,i,j,by simp[SV.enc],hj,e⟩
  ·cases e
 ·split at e
  ·rename_i k i hi;obtain⟨j,hj,e⟩:=run_bind e;exact⟨k,i,j,yI hi,hj,e⟩
  ·cases e
def q4Y (n:Nat)(ix:SV)(K K2:Nat->zED R):zED R:=match ix with
 | .c (.int _ i)=>(match idx n i with
   | some j=>K j
   | none=>.fail)
 | v=>(match asI v with
   | some (_,i)=>.bind (idx n i) K2
   | none=>.fail)
theorem qZU {n:Nat}{ix:SV}{K K2:Nat->zED R}(e:(q4Y n ix K K2).run=some r):∃ k i j,ix.enc=fvv (.int k i)∧idx n i=some j∧((K j).run=some r∨(K2 j).run=some r):=by
 unfold q4Y at e;split at e
 ·rename_i k i;split at e
  ·rename_i j hj;exact⟨k,i,j,by simp[SV.enc],hj,.inl e⟩
  ·cases e
 ·split at e
  ·rename_i k i hi;obtain⟨j,hj,e⟩:=run_bind e;exact⟨k,i,j,yI hi,hj,.inr e⟩
  ·cases e
def zAE (n:Nat):SV->SV
 | .ref k off w=>.rfx k (off+n) w
 | .elt k g m w j off=>.etx k g m w j (off+n)
 | v=>qNS n v
omit [Yl] in
theorem q6D {n:Nat}{v:SV}(hv:v.ok h):(zAE n v).ok h:=by
 cases v <;> simp only[zAE,qNS,SV.ok] at hv ⊢ <;> exact hv
theorem qZ2 {n:Nat}{v:SV}(hv:zC5 v=true):(zAE n v).enc=(qNS n v).enc:=by
 cases v <;> first | rfl | (simp only[zAE,qNS,SV.enc])
def rF (P:Program)(t:TypeId)(x ix:SV)(h:SH)(K:SV->zED R):zED R:=match x with
 | .d (.list el u) xs=>(match asI ix,zT P t with
   | some (_,i),some el'=>(match szT P el' with
     | some s=>cond (Nat.beq s u.w) (.bind (idx (List.length xs) i) fun j=>K (.lp u xs j 0)) .fail
     | none=>.fail)
   | _,_=>.fail)
 | .own k g n=>(match asI ix,zT P t,slk k h.l with
   | some (_,i),some el',some (.list el _ g' _ u _)=>cond (Nat.beq el' el&&Nat.beq g g') (.bind (idx n i) fun j=>K (.elt k g n u.w j 0)) .fail
   | some (_,i),some el',some (.cells el _ cs)=>(match szT P el with
     | some s=>cond (Nat.beq el' el&&Nat.beq (n*s) cs.length) (.bind (idx n i) fun j=>K (.ref k (j*s) cs.length)) .fail
     | none=>.fail)
   | _,_,_=>.fail)
 | .sl k g n o m=>(match asI ix,zT P t,slk k h.l with
   | some (_,i),some el',some (.list el _ g' _ u _)=>cond (Nat.beq el' el&&Nat.beq g g') (.bind (idx m i) fun j=>K (.elt k g n u.w (o+j) 0)) .fail
   | _,_,_=>.fail)
 | x=>(match qPQ P t with
   | some (n,el)=>(match szT P el with
     | some s=>cond (zC5 x) (q46 h x (q4Y n ix (fun j=>K (qNS (j*s) x)) fun j=>K (zAE (j*s) x))) .fail
     | none=>.fail)
   | none=>.fail)
theorem qF3 {t:TypeId}{x ix:SV}{K:SV->zED R}(ho:OkH P h)(hx:x.ok h)(e:(rF P t x ix h K).run=some r):∃ v,zD P t x.enc ix.enc (qD h.l)=some v.enc∧v.ok h∧(K v).run=some r:=by
 unfold rF at e;split at e
 ·rename_i el u xs;split at e
  ·rename_i k i el' hi hel;split at e
   ·rename_i s hs;obtain⟨h1,e1⟩:=qG e;obtain⟨j,hj,e2⟩:=run_bind e1;have hw:s=u.w:=zNU h1;subst hw;refine⟨_,?_,by simp[SV.ok],e2⟩;rw[yI hi];simp only[SV.enc,Ty.fv,fvv,zD,hel,hs,hj,zQE]
   ·cases e
  ·cases e
 ·rename_i k g n;split at e
  ·rename_i ki i el' el gr g' w u xs hi hel hk;obtain⟨h1,e1⟩:=qG e;obtain⟨j,hj,e2⟩:=run_bind e1;rw[zNT] at h1;have hg:g=g':=zNU h1.2;subst hg;simp only[SV.ok] at hx;have hn:=hx.2 _ _ _ _ _ hk;have hl:=ho.list _ _ _ _ _ _ _ hk;refine⟨_,?_,by simp only[SV.ok];exact hx,e2⟩;rw[yI hi];simp only[SV.enc,fvv,zD,hel,zP hk]
   show (match szT P el with
    | some s=>(match idx n i with
      | some j=>cond (Nat.beq el' el&&Nat.beq (n*s) (SO.list el gr g w u xs).enc.cs.length) (some (PV.ref k (SO.list el gr g w u xs).enc.cs.length ((0+j)*s))) none
      | none=>none)
    | none=>none)=_
   rw[hl.2.1,hj];simp only[qY,hn,aA,h1.1,zOS,cond_true,zOR,zQE]
  ·rename_i ki i el' el w cs hi hel hk;split at e
   ·rename_i s hs;obtain⟨h1,e1⟩:=qG e;obtain⟨j,hj,e2⟩:=run_bind e1;refine⟨_,?_,by simp[SV.ok],e2⟩;rw[yI hi];simp only[SV.enc,fvv,zD,hel,zP hk]
    show (match szT P el with
     | some s=>(match idx n i with
       | some j=>cond (Nat.beq el' el&&Nat.beq (n*s) (qC cs).length) (some (PV.ref k (qC cs).length ((0+j)*s))) none
       | none=>none)
     | none=>none)=_
    rw[hs,hj];simp only[qV,h1,cond_true,zOR]
   ·cases e
  ·cases e
 ·rename_i k g n o m;split at e
  ·rename_i ki i el' el gr g' w u xs hi hel hk;obtain⟨h1,e1⟩:=qG e;obtain⟨j,hj,e2⟩:=run_bind e1;rw[zNT] at h1;have hg:g=g':=zNU h1.2;subst hg;simp only[SV.ok] at hx;have hn:=hx.1.2 _ _ _ _ _ hk;have hl:=ho.list _ _ _ _ _ _ _ hk;refine⟨_,?_,by simp only[SV.ok];exact hx.1,e2⟩;rw[yI hi];simp only[SV.enc,fvv,zD,hel,zP hk]
   show (match szT P el with
    | some s=>(match idx m i with
      | some j=>cond (Nat.beq el' el&&Nat.beq (n*s) (SO.list el gr g w u xs).enc.cs.length) (some (PV.ref k (SO.list el gr g w u xs).enc.cs.length ((o+j)*s))) none
      | none=>none)
    | none=>none)=_
   rw[hl.2.1];simp only[hj,qY,hn,aA,h1.1,zOS,cond_true,zQE]
  ·cases e
 ·split at e
  ·rename_i n el ha;split at e
   ·rename_i s hs;obtain⟨h1,e⟩:=qG e;obtain⟨e,h2,h3⟩:=q0E e;obtain⟨ki,i,j,hi,hj,e⟩:=qZU e
    obtain⟨v,hv1,hv2,e⟩:∃ v:SV,v.enc=(qNS (j*s) x).enc∧v.ok h∧(K v).run=some r:=by
     rcases e with e | e
     ·exact⟨_,rfl,qX0 hx,e⟩
     ·exact⟨_,qZ2 h1,q6D hx,e⟩
    refine⟨_,?_,hv2,e⟩;rw[hi,hv1]
    cases x with
    | ref k o w=>simp only[SV.enc,qNS,fvv,zD,ha,hs,hj,h2 _ _ _ rfl,cond_true]
    | elt k g n w j o=>simp only[SV.enc,qNS,fvv,zD,ha,hs,hj,qE6 hx (h3 _ _ _ _ _ _ rfl),cond_true,zPQ]
    | lp t xs j o=>simp only[SV.enc,qNS,fvv,zD,ha,hs,hj,zPQ]
    | _=>cases h1
   ·cases e
  ·cases e
def qXR (P:Program)(t:TypeId)(x ix:SV)(K:SV->zED R):zED R:=match qPQ P t,x with
 | some (n,el),.agg l=>(match szT P el with
   | some s=>zBZ n ix fun j=>match qGD P el l (j*s) with
     | some v=>K v
     | none=>.fail
   | none=>.fail)
 | _,_=>.fail
theorem qT8 {t:TypeId}{x ix:SV}{K:SV->zED R}(hx:x.ok h)(e:(qXR P t x ix K).run=some r):∃ v,qEJ P t x.enc ix.enc=some v.enc∧v.ok h∧(K v).run=some r∧∃ l,x=.agg l:=by
 unfold qXR at e;split at e
 ·rename_i n el l ha;split at e
  ·rename_i s hs;obtain⟨ki,i,j,hi,hj,e⟩:=q6X e;split at e
   ·rename_i v hv;obtain⟨h1,h2⟩:=qE7 (h:=h) hv;simp only[SV.ok] at hx;refine⟨v,?_,h2 hx,e,l,rfl⟩;rw[hi];simp only[qEJ,ha,SV.enc,fvv,hs,hj];exact h1
   ·cases e
  ·cases e
 ·cases e
def qGS (v:SV)(i:Nat):Option SV:=match v with
 | .tup l=>(match zL l i with
   | some x=>cond (pnt x.enc) (some x) none
   | none=>none)
 | _=>none
theorem qM8 {x v:SV}{i:Nat}(hx:x.ok h)(e:qGS x i=some v):bL x.enc i=some v.enc∧v.ok h:=by
 unfold qGS at e;split at e
 ·rename_i l;split at e
  ·rename_i y hy
   cases hp:pnt y.enc with
   | false=>rw[hp] at e;cases e
   | true =>
     rw[hp] at e;cases e;simp only[SV.ok] at hx;refine⟨?_,mE hx hy⟩;simp only[bL,SV.enc,zA,hy,zN8,hp,cond_true]
  ·cases e
 ·cases e
def qA3 (fn:Fn)(first cap:List SV):Option SV:=match fn with
 | .func g=>some (match first,cap with
   | [],[]=>.c (.func (.func g) #[] #[])
   | _,_=>.fn g first cap)
 | _=>none
theorem qJX {fn:Fn}{first cap:List SV}{v:SV}(h1:okL h first)(h2:okL h cap)(e:qA3 fn first cap=some v):vJ fn (qC first) (qC cap)=some v.enc∧v.ok h:=by
 unfold qA3 at e;split at e
 ·rename_i g;cases e
  cases first with
  | nil=>cases cap with
    | nil=>exact⟨by simp[vJ,qC,SV.enc],by simp[SV.ok]⟩
    | cons x l=>exact⟨by simp[vJ,qC,SV.enc],by simp only[SV.ok];exact⟨h1,h2⟩⟩
  | cons y l=>exact⟨by simp[vJ,qC,SV.enc],by simp only[SV.ok];exact⟨h1,h2⟩⟩
 ·cases e
def qCC (v:SV)(h:SH):Option SV:=match v with
 | .fn _ _ _=>some v
 | .c (.func (.func _) _ _)=>some v
 | v=>cond (qX7 h v) (some v) none
theorem qIC {x v:SV}(hx:x.ok h)(e:qCC x h=some v):yR x.enc (qD h.l)=some v.enc∧v.ok h:=by
 unfold qCC at e;split at e
 ·cases e;exact⟨by simp[yR,SV.enc],hx⟩
 ·cases e;exact⟨by simp[yR,SV.enc,fvv],hx⟩
 ·cases hl:qX7 h x with
  | false=>rw[hl] at e;cases e
  | true =>
    rw[hl] at e;cases e;refine⟨?_,hx⟩
    cases x with
    | ref k o w=>simp only[SV.enc,yR,qGJ hl,cond_true]
    | elt k g n w j o=>simp only[SV.enc,yR,qE6 hx hl,cond_true]
    | lp t xs j o=>simp only[SV.enc,yR]
    | _=>cases hl
end
end Go.Sv
namespace Go.Sv
open Go.Idl
variable {el:TypeId}{k:Nat}{t:Ty}{x:SV}
noncomputable section
variable [Gc]
variable [Yl]
variable {P:Program}{h:SH}{R:Type}{r:R}
def zCT (P:Program)(ts:Array TypeId)(x:SV)(h:SH):Option SV:=match ts[0]? with
 | some t=>(match zT P t with
   | some _=>(match x with
     | .d (.list _ _) xs=>some (.d (.int .i64) ((List.length xs:Nat):Int))
     | .c (.slice _ n _)=>some (.c (.int .i64 (n:Int)))
     | .own k g n=>(match slk k h.l with
       | some (.list _ _ g' _ _ _)=>cond (Nat.beq g g') (some (.d (.int .i64) (n:Int))) none
       | some (.cells el _ cs)=>(match szT P el with
         | some s=>cond (Nat.beq (n*s) cs.length) (some (.c (.int .i64 (n:Int)))) none
         | none=>none)
       | _=>none)
     | .sl k g _ _ m=>(match slk k h.l with
       | some (.list _ _ g' _ _ _)=>cond (Nat.beq g g') (some (.d (.int .i64) (m:Int))) none
       | _=>none)
     | _=>none)
   | none=>(match qPQ P t with
     | some (n,_)=>some (.c (.int .i64 (n:Int)))
     | none=>none))
 | none=>none
theorem q5B {ts:Array TypeId}{v:SV}(ho:OkH P h)(hx:x.ok h)(e:zCT P ts x h=some v):q1E P ts x.enc (qD h.l)=some v.enc∧v.ok h:=by
 unfold zCT at e;unfold q1E;split at e
 ·rename_i t ht;split at e
  ·rename_i el hel;split at e
   ·rename_i el' u xs;cases e;simp[ht,hel,SV.enc,Ty.fv,fvv,SV.ok]
   ·rename_i a n c;cases e;simp[ht,hel,SV.enc,fvv,SV.ok]
   ·rename_i k g n;split at e
    ·rename_i el' gr g' w u xs hk
     obtain⟨h1,e1⟩:Nat.beq g g'=true∧some (SV.d (.int .i64) (n:Int))=some v:=by
      cases hb:Nat.beq g g' with
      | false=>rw[hb] at e;cases e
      | true=>rw[hb] at e;exact⟨rfl,e⟩
     cases e1;have hg:g=g':=zNU h1;subst hg;simp only[SV.ok] at hx;have hn:=hx.2 _ _ _ _ _ hk;have hl:=ho.list _ _ _ _ _ _ _ hk;refine⟨?_,by simp[SV.ok]⟩;simp only[ht,hel,SV.enc,zP hk]
     show (match szT P el' with
      | some s=>cond (Nat.beq (n*s) (SO.list el' gr g w u xs).enc.cs.length) (some (fvv (.int .i64 (n:Int)))) none
      | none=>none)=_
     rw[hl.2.1];simp only[qY,hn,aA,cond_true,Ty.fv,fvv]
    ·rename_i el' w cs hk;split at e
     ·rename_i s hs
      cases hb:Nat.beq (n*s) cs.length with
      | false=>rw[hb] at e;cases e
      | true =>
        rw[hb] at e;cases e;refine⟨?_,by simp[SV.ok]⟩;simp only[ht,hel,SV.enc,zP hk]
        show (match szT P el' with
         | some s=>cond (Nat.beq (n*s) (qC cs).length) (some (fvv (.int .i64 (n:Int)))) none
         | none=>none)=_
        rw[hs];simp only[qV,hb,cond_true]
     ·cases e
    ·cases e
   ·rename_i k g n o m;split at e
    ·rename_i el' gr g' w u xs hk
     obtain⟨h1,e1⟩:Nat.beq g g'=true∧some (SV.d (.int .i64) (m:Int))=some v:=by
      cases hb:Nat.beq g g' with
      | false=>rw[hb] at e;cases e
      | true=>rw[hb] at e;exact⟨rfl,e⟩
     cases e1;have hg:g=g':=zNU h1;subst hg;simp only[SV.ok] at hx;have hn:=hx.1.2 _ _ _ _ _ hk;have hl:=ho.list _ _ _ _ _ _ _ hk;refine⟨?_,by simp[SV.ok]⟩;simp only[ht,hel,SV.enc,zP hk]
     show (match szT P el' with
      | some s=>cond (Nat.beq (n*s) (SO.list el' gr g w u xs).enc.cs.length) (some (fvv (.int .i64 (m:Int)))) none
      | none=>none)=_
     rw[hl.2.1];simp only[qY,hn,aA,cond_true,Ty.fv,fvv]
    ·cases e
   ·cases e
  ·rename_i hel;split at e
   ·rename_i n el ha;cases e;simp[ht,hel,ha,SV.enc,SV.ok]
   ·cases e
 ·cases e
def qDE (u t:Ty)(xs:List u.sem):Option (List t.sem):=if e:u=t then some (e ▸ xs) else none
omit [Yl] in
theorem uF {u:Ty}{xs:List u.sem}{ys:List t.sem}(e:qDE u t xs=some ys):(⟨u,xs⟩:(t:Ty)×List t.sem)=⟨t,ys⟩:=by
 unfold qDE at e;split at e
 ·rename_i h;subst h;cases e;rfl
 ·cases e
def qWB (t:Ty)(x:SV)(h:SH):Option (List t.sem):=match x with
 | .d (.list _ u) xs=>qDE u t xs
 | .c (.slice none 0 _)=>some []
 | .own k g _=>(match slk k h.l with
   | some (.list _ _ g' _ u xs)=>cond (Nat.beq g g') (qDE u t xs) none
   | _=>none)
 | .sl k g _ o m=>(match slk k h.l with
   | some (.list _ _ g' _ u xs)=>cond (Nat.beq g g') (match qDE u t xs with
     | some xs=>some ((xs.drop o).take m)
     | none=>none) none
   | _=>none)
 | _=>none
theorem qE5 {ys:List t.sem}(ho:OkH P h)(hx:x.ok h)(e:qWB t x h=some ys):mW P t.w x.enc (qD h.l)=some (ys.length,(ys.flatMap t.cells).map .f):=by
 unfold qWB at e;unfold mW;split at e
 ·rename_i el u xs;cases uF e;simp only[SV.enc,Ty.fv,zX,aA,cond_true]
 ·cases e;simp[SV.enc,fvv]
 ·rename_i k g n;split at e
  ·rename_i el gr g' w u xs hk
   cases hb:Nat.beq g g' with
   | false=>rw[hb] at e;cases e
   | true =>
     rw[hb] at e;have hg:g=g':=zNU hb;subst hg;cases uF e;simp only[SV.ok] at hx;have hn:=hx.2 _ _ _ _ _ hk;have hl:=ho.list _ _ _ _ _ _ _ hk;simp only[SV.enc,zP hk]
     show (match szT P el with
      | some s'=>cond (Nat.beq (n*s') (SO.list el gr g w t ys).enc.cs.length&&Nat.beq t.w s') (some (n,(((ys.flatMap t.cells).map PV.f).drop (0*t.w)).take (n*t.w))) none
      | none=>none)=_
     rw[hl.2.1];simp only[qY,hn,aA,zOS,cond_true,zQ5,zPA];rw[zOL (by rw[zN5,zX];exact zNV _)]
  ·cases e
 ·rename_i k g n o m;split at e
  ·rename_i el gr g' w u xs hk
   cases hb:Nat.beq g g' with
   | false=>rw[hb] at e;cases e
   | true =>
     rw[hb] at e;have hg:g=g':=zNU hb;subst hg;simp only[cond_true] at e;split at e
     case h_2=>cases e
     rename_i xs2 zL4;cases e;cases uF zL4;simp only[SV.ok] at hx;have hn:=hx.1.2 _ _ _ _ _ hk;have hl:=ho.list _ _ _ _ _ _ _ hk;simp only[SV.enc,zP hk]
     show (match szT P el with
      | some s'=>cond (Nat.beq (n*s') (SO.list el gr g w t xs2).enc.cs.length&&Nat.beq t.w s') (some (m,(((xs2.flatMap t.cells).map PV.f).drop (o*t.w)).take (m*t.w))) none
      | none=>none)=_
     rw[hl.2.1];simp only[qY,hn,aA,zOS,cond_true];rw[<-zP6,<-zPZ,gK,u6]
     congr 1
     have:=hx.2;rw[zO4,zQK,zPK (by omega)]
  ·cases e
 ·cases e
omit [Yl] in
theorem qBU (ys:List t.sem):((ys.flatMap t.cells).map PV.f).all aF=true:=by
 rw[zNW];intro x hx;obtain⟨y,_,rfl⟩:=zOJ.1 hx;rfl
omit [Yl] in
theorem qGX {h0:SH}{gr:Bool}{n m:Nat}{ty:Ty}{xs ys:List ty.sem}(hn:n=xs.length)(hm:m=ys.length):(SV.own k h0.next (n+m)).ok (h0.new k fun v=>.list el gr v v ty (xs++ys)) :=
 wR (by rw[zOG,hn,hm])
def qHG (P:Program)(ts:List TypeId)(base x:SV)(k:Nat)(h:SH)(K:SV->SH->zED R):zED R:=match ts with
 | [st,xt]=>(match zT P st,zT P xt with
   | some el,some _=>(match szT P el,qDM P 8 el with
     | some (s+1),some t=>cond (Nat.beq t.w (s+1)&&kT P el) (match qWB t x h with
       | some ys=>(match base with
         | .c (.slice none 0 0)=>.ite (Nat.beq ys.length 0) (K base h)
            (.ite (Nat.ble (0+ys.length) 1048576) (K (.own k h.next (0+ys.length)) (h.new k fun v=>.list el true v v t ([]++ys))) .fail)
         | .own j g n=>(match slk j h.l with
           | some (.list el' gr g' _ u xs)=>cond (Nat.beq el' el&&Nat.beq g g') (match qDE u t xs with
             | some xs=>.ite (Nat.beq ys.length 0) (K base h)
                (.ite (Nat.ble (n+ys.length) 1048576) (cond gr (K (.own j h.next (n+ys.length)) ((h.del j).new j fun v=>.list el true v v t (xs++ys))) (K (.own k h.next (n+ys.length)) (h.new k fun v=>.list el true v v t (xs++ys)))) .fail)
             | none=>.fail) .fail
           | _=>.fail)
         | _=>.fail)
       | none=>.fail) .fail
     | _,_=>.fail)
   | _,_=>.fail)
 | _=>.fail
omit [Yl] in
theorem qGM {xs ys:List t.sem}{ph:PHp}(h1:Nat.ble (xs.length+ys.length) 1048576=true)(h2:kT P el=true) :
 nS P el t.w ((xs.flatMap t.cells).map .f) xs.length ((ys.flatMap t.cells).map .f) ys.length k ph=some (.own k (xs.length+ys.length) 0 (xs.length+ys.length),(k,⟨el,true,((xs++ys).flatMap t.cells).map .f⟩)::ph):=by
 unfold nS;rw[h1,h2,zN5,zX,zN5,zX,qBU];simp only[aA,zOS,cond_true,qDD];rw[zQZ,zO0]
theorem qEK {ts:List TypeId}{base:SV}{K:SV->SH->zED R}(ho:OkH P h)(hb:base.ok h)(hx:x.ok h)(e:(qHG P ts base x k h K).run=some r) :
 ∃ v h',zY P ts base.enc x.enc k (qD h.l)=some (v.enc,qD h'.l)∧Post P h h' v∧(K v h').run=some r:=by
 unfold qHG at e;split at e
 ·rename_i st xt;split at e
  ·rename_i el el2 hel zGC;split at e
   ·rename_i s t hs hty;have e_:=qG e;clear e;obtain⟨c1,e⟩:=e_;rw[zNT] at c1;have hw:s+1=t.w:=(zNU c1.1).symm;split at e
    ·rename_i ys hys;have hnw:=qE5 ho hx hys;split at e
     ·have e_:=run_ite e;clear e
      rcases e_ with ⟨z,e⟩ | ⟨z,e⟩
      ·refine⟨_,_,?_,⟨.refl _,ho,hb⟩,e⟩;simp only[zY,hel,zGC,hs,SV.enc,fvv];rw[hw,hnw];simp only[z,cond_true]
      ·have e_:=run_ite e;clear e
       rcases e_ with ⟨z2,e⟩ | ⟨z2,e⟩
       ·have hn:=xE (k:=k) (f:=fun v=>.list el true v v t ([]++ys)) ho ⟨rfl,rfl,by rw[hs];exact congrArg some hw,by omega⟩;refine⟨_,_,?_,⟨hn.1,hn.2,qGX (xs:=[]) rfl rfl⟩,e⟩;simp only[zY,hel,zGC,hs,SV.enc,fvv];rw[hw,hnw];simp only[z,cond_false];exact qGM (xs:=[]) z2 c1.2
       ·cases e
     ·rename_i j g n;split at e
      ·rename_i el' gr g' w u xs0 hk;have e_:=qG e;clear e;obtain⟨c2,e⟩:=e_;rw[zNT] at c2;have he:el'=el:=zNU c2.1;have hg:g=g':=zNU c2.2;split at e
       ·rename_i xs hxs;have hcast:=uF hxs
        have hk2:slk j h.l=some (.list el gr g w t xs):=by
         rw[hk,he,<-hg];cases hcast;rfl
        have hnl:n=xs.length:=by
         simp only[SV.ok] at hb;exact hb.2 _ _ _ _ _ hk2
        have pre:∀ z:PV×PHp,(cond (Nat.beq ys.length 0) (some (PV.own j n 0 n,qD h.l))
         (cond (Nat.ble (n+ys.length) n) (cond (Nat.beq ((ys.flatMap t.cells).map PV.f).length (ys.length*(s+1))&&((ys.flatMap t.cells).map PV.f).all aF) (some (PV.own j n 0 (n+ys.length),xY j { (SO.list el gr g w t xs).enc with cs:=yM (SO.list el gr g w t xs).enc.cs (n*(s+1)) ((ys.flatMap t.cells).map PV.f) } (qD h.l))) none)
           (cond gr (nS P el (s+1) (SO.list el gr g w t xs).enc.cs n ((ys.flatMap t.cells).map PV.f) ys.length j (nC j (qD h.l))) (nS P el (s+1) (SO.list el gr g w t xs).enc.cs n ((ys.flatMap t.cells).map PV.f) ys.length k (qD h.l)))))=some z ->
         zY P [st,xt] (SV.own j g n).enc x.enc k (qD h.l)=some z:=fun z hz=>by
         simp only[zY,hel,zGC,hs,SV.enc];rw[show mW P (s+1) x.enc (qD h.l)=_ from (hw ▸ hnw)];simp only[zP hk2];rw[show (SO.list el gr g w t xs).enc.el=el from rfl,show Nat.beq (n*(s+1)) (SO.list el gr g w t xs).enc.cs.length=true by rw[qY,hw,hnl];exact aA _];simp only[aA,zOS,cond_true];exact hz
        have e_:=run_ite e;clear e
        rcases e_ with ⟨z,e⟩ | ⟨z,e⟩
        ·refine⟨_,_,pre _ ?_,⟨.refl _,ho,hb⟩,e⟩;rw[z];simp[SV.enc]
        ·have e_:=run_ite e;clear e
         rcases e_ with ⟨z2,e⟩ | ⟨z2,e⟩
         ·have hpos:Nat.ble (n+ys.length) n=false:=by
           cases hq:Nat.ble (n+ys.length) n with
           | false=>rfl
           | true =>
             have h0:=zN3 hq;have:ys.length=0:=by omega
             rw[this] at z;cases z
          cases hgr:gr with
          | true =>
            rw[hgr] at e;have hd:=gZ (k:=j) ho;have hn:=xE (h:=h.del j) (k:=j) (f:=fun v=>.list el true v v t (xs++ys)) hd.2 ⟨rfl,rfl,by rw[hs];exact congrArg some hw,by omega⟩;refine⟨_,_,pre _ ?_,⟨hd.1.trans hn.1,hn.2,qGX (h0:=h.del j) hnl rfl⟩,e⟩;rw[z,hpos,hgr];simp only[cond_true,cond_false];rw[hw,hnl];rw[hnl] at z2;rw[show (SO.list el true g w t xs).enc.cs=(xs.flatMap t.cells).map .f from rfl,qGM z2 c1.2,<-gP];rfl
          | false =>
            rw[hgr] at e;have hn:=xE (h:=h) (k:=k) (f:=fun v=>.list el true v v t (xs++ys)) ho ⟨rfl,rfl,by rw[hs];exact congrArg some hw,by omega⟩;refine⟨_,_,pre _ ?_,⟨hn.1,hn.2,qGX (h0:=h) hnl rfl⟩,e⟩;rw[z,hpos,hgr];simp only[cond_false];rw[hw,hnl];rw[hnl] at z2;rw[show (SO.list el false g w t xs).enc.cs=(xs.flatMap t.cells).map .f from rfl,qGM z2 c1.2];rfl
         ·cases e
       ·cases e
      ·cases e
     ·cases e
    ·cases e
   ·cases e
  ·cases e
 ·cases e
end
end Go.Sv
namespace Go.Sv
open Go.Idl
variable {base x:SV}{c o:Nat}{ts:List TypeId}
noncomputable section
variable [Gc]
variable [Yl]
variable {P:Program}{h:SH}{R:Type}{r:R}
def sJ {α:Type}(xs ys:List α)(o c:Nat):List α:=xs.take o++(ys.take c++xs.drop (o+c))
omit [Yl] in
theorem qO3 {α:Type}{xs ys:List α}(h1:o+c<=xs.length)(h2:c<=ys.length):xs.length=(sJ xs ys o c).length:=by
 simp[sJ];omega
omit [Yl] in
theorem qI9 {t:Ty}{xs ys:List t.sem}(h2:c<=ys.length) :
 yM ((xs.flatMap t.cells).map PV.f) (o*t.w) (((ys.flatMap t.cells).map PV.f).take (c*t.w))=((sJ xs ys o c).flatMap t.cells).map PV.f:=by
 have hl:(((ys.flatMap t.cells).map PV.f).take (c*t.w)).length=c*t.w:=by
  rw[zO4,zN5,zX];exact zPK (zOW _ h2)
 unfold yM;rw[hl,<-zP1,<-zPZ,<-zPZ,<-zP6,u6,u6,gK];unfold sJ;simp[zQZ,zOT]
def q36 (P:Program)(ts:List TypeId)(base x:SV)(h:SH)(K:SV->SH->zED R):zED R:=match ts with
 | [st,xt]=>(match zT P st,zT P xt with
   | some el,some _=>(match szT P el,qDM P 8 el with
     | some (s+1),some t=>cond (Nat.beq t.w (s+1)) (match qWB t x h with
       | some ys=>(match base with
         | .own j g n=>(match slk j h.l with
           | some (.list el' gr g' _ u xs)=>cond (Nat.beq el' el&&Nat.beq g g') (match qDE u t xs with
             | some xs=>K (.d (.int .i64) ((Nat.min ys.length n:Nat):Int)) (h.put j fun v=>.list el gr g v t (sJ xs ys 0 (Nat.min ys.length n)))
             | none=>.fail) .fail
           | _=>.fail)
         | .sl j g n o m=>(match slk j h.l with
           | some (.list el' gr g' _ u xs)=>cond (Nat.beq el' el&&Nat.beq g g') (match qDE u t xs with
             | some xs=>K (.d (.int .i64) ((Nat.min ys.length m:Nat):Int)) (h.put j fun v=>.list el gr g v t (sJ xs ys o (Nat.min ys.length m)))
             | none=>.fail) .fail
           | _=>.fail)
         | .d (.list _ _) xs=>.ite (Nat.beq (List.length xs) 0) (K (.d (.int .i64) 0) h) .fail
         | .c (.slice none 0 _)=>K (.d (.int .i64) 0) h
         | _=>.fail)
       | none=>.fail) .fail
     | _,_=>.fail)
   | _,_=>.fail)
 | _=>.fail
theorem q0J {K:SV->SH->zED R}(ho:OkH P h)(hb:base.ok h)(hx:x.ok h)(e:(q36 P ts base x h K).run=some r) :
 ∃ v h',qHA P ts base.enc x.enc (qD h.l)=some (v.enc,qD h'.l)∧Post P h h' v∧(K v h').run=some r:=by
 unfold q36 at e;split at e
 ·rename_i st xt;split at e
  ·rename_i el el2 hel zGC;split at e
   ·rename_i s t hs hty;have e_:=qG e;clear e;obtain⟨c1,e⟩:=e_;have hw:s+1=t.w:=(zNU c1).symm;split at e
    ·rename_i ys hys;have hnw:mW P (s+1) x.enc (qD h.l)=some (ys.length,(ys.flatMap t.cells).map .f):=hw ▸ qE5 ho hx hys;have hlen:((ys.flatMap t.cells).map PV.f).length=ys.length*(s+1):=by rw[zN5,zX,hw]
     have key:∀ {j g n o m w:Nat} {gr:Bool} {xs:List t.sem},slk j h.l=some (.list el gr g w t xs)->n=xs.length->o+m<=n ->
      (K (.d (.int .i64) ((Nat.min ys.length m:Nat):Int)) (h.put j fun v=>.list el gr g v t (sJ xs ys o (Nat.min ys.length m)))).run=some r ->
      ∃ v h',qHA P [st,xt] (.own j n o m) x.enc (qD h.l)=some (v.enc,qD h'.l)∧Post P h h' v∧(K v h').run=some r:=by
      intro j g n o m w gr xs hk hn hom e;have hc:Nat.min ys.length m<=ys.length:=Nat.min_le_left _ _;have hc2:Nat.min ys.length m<=m:=Nat.min_le_right _ _;have hp:=vL (f:=fun v=>.list el gr g v t (sJ xs ys o (Nat.min ys.length m))) ho hk ⟨_,rfl,qO3 (by omega) hc⟩;refine⟨_,_,?_,⟨hp.1,hp.2,by simp[SV.ok]⟩,e⟩;simp only[qHA,hel,zGC,hs,hnw,zP hk];rw[show (SO.list el gr g w t xs).enc.el=el from rfl,show Nat.beq (n*(s+1)) (SO.list el gr g w t xs).enc.cs.length=true by rw[qY,hw,hn];exact aA _,hlen,qBU];simp only[aA,zOS,cond_true];rw[show qD (h.put j fun v=>.list el gr g v t (sJ xs ys o (Nat.min ys.length m))).l=xY j (SO.list el gr g h.next t (sJ xs ys o (Nat.min ys.length m))).enc (qD h.l) from xW j _ _];rw[hw];show some (_,xY j ⟨el,gr,yM ((xs.flatMap t.cells).map PV.f) (o*t.w) _⟩ (qD h.l))=some (_,xY j ⟨el,gr,((sJ xs ys o (Nat.min ys.length m)).flatMap t.cells).map PV.f⟩ (qD h.l));rw[qI9 hc];simp[SV.enc,Ty.fv,fvv]
     split at e
     ·rename_i j g n;split at e
      ·rename_i el' gr g' w u xs0 hk;have e_:=qG e;clear e;obtain⟨c2,e⟩:=e_;rw[zNT] at c2;have he:el'=el:=zNU c2.1;have hg:g=g':=zNU c2.2;split at e
       ·rename_i xs hxs;have hcast:=uF hxs
        have hk2:slk j h.l=some (.list el gr g w t xs):=by
         rw[hk,he,<-hg];cases hcast;rfl
        simp only[SV.ok] at hb;exact key hk2 (hb.2 _ _ _ _ _ hk2) (by omega) e
       ·cases e
      ·cases e
     ·rename_i j g n o m;split at e
      ·rename_i el' gr g' w u xs0 hk;have e_:=qG e;clear e;obtain⟨c2,e⟩:=e_;rw[zNT] at c2;have he:el'=el:=zNU c2.1;have hg:g=g':=zNU c2.2;split at e
       ·rename_i xs hxs;have hcast:=uF hxs
        have hk2:slk j h.l=some (.list el gr g w t xs):=by
         rw[hk,he,<-hg];cases hcast;rfl
        simp only[SV.ok] at hb;exact key hk2 (hb.1.2 _ _ _ _ _ hk2) hb.2 e
       ·cases e
      ·cases e
     ·rename_i el' u xs
      rcases run_ite e with ⟨z,e⟩ | ⟨z,e⟩
      ·refine⟨_,_,?_,⟨.refl _,ho,by simp[SV.ok]⟩,e⟩;have hz:xs=[]:=zO1.1 (zNU z);subst hz;simp[qHA,hel,zGC,hs,hnw,SV.enc,Ty.fv,fvv]
      ·cases e
     ·refine⟨_,_,?_,⟨.refl _,ho,by simp[SV.ok]⟩,e⟩;simp[qHA,hel,zGC,hs,hnw,SV.enc,Ty.fv,fvv]
     ·cases e
    ·cases e
   ·cases e
  ·cases e
 ·cases e
def q7A (P:Program)(ts:List TypeId)(base x:SV)(k:Nat)(h:SH)(K:SV->SH->zED R):zED R:=match base with
 | .sl j g n o m=>(match ts with
   | [st,xt]=>(match zT P st,zT P xt with
     | some el,some _=>(match szT P el,qDM P 8 el with
       | some (s+1),some t=>cond (Nat.beq t.w (s+1)&&Nat.beq o 0) (match qWB t x h with
         | some ys=>(match slk j h.l with
           | some (.list el' gr g' _ u xs)=>cond (Nat.beq el' el&&Nat.beq g g') (match qDE u t xs with
             | some xs=>.ite (Nat.beq ys.length 0) (K base h)
                (.ite (Nat.ble (m+ys.length) n) (K (.sl j g n 0 (m+ys.length)) (h.put j fun v=>.list el gr g v t (sJ xs ys m ys.length)))
                  (.ite (Nat.beq m n) (qHG P ts (.own j g n) x k h K) .fail))
             | none=>.fail) .fail
           | _=>.fail)
         | none=>.fail) .fail
       | _,_=>.fail)
     | _,_=>.fail)
   | _=>.fail)
 | base=>qHG P ts base x k h K
theorem q1K {k:Nat}{K:SV->SH->zED R}(ho:OkH P h)(hb:base.ok h)(hx:x.ok h)(e:(q7A P ts base x k h K).run=some r) :
 ∃ v h',zY P ts base.enc x.enc k (qD h.l)=some (v.enc,qD h'.l)∧Post P h h' v∧(K v h').run=some r:=by
 unfold q7A at e;split at e
 case h_2=>exact qEK ho hb hx e
 rename_i j g n o m;split at e
 case h_2=>cases e
 rename_i st xt;split at e
 case h_2=>cases e
 rename_i el el2 hel zGC;split at e
 case h_2=>cases e
 rename_i s t hs hty;obtain⟨c1,e1⟩:=qG e;rw[zNT] at c1;have hw:s+1=t.w:=(zNU c1.1).symm;have h0:o=0:=zNU c1.2;subst h0;split at e1
 case h_2=>cases e1
 rename_i ys hys;have hnw:mW P (s+1) x.enc (qD h.l)=some (ys.length,(ys.flatMap t.cells).map .f):=hw ▸ qE5 ho hx hys;split at e1
 case h_2=>cases e1
 rename_i el' gr g' w u xs0 hk;obtain⟨c2,e2⟩:=qG e1;rw[zNT] at c2;have he:el'=el:=zNU c2.1;have hg:g=g':=zNU c2.2;split at e2
 case h_2=>cases e2
 rename_i xs hxs;have hcast:=uF hxs
 have hk2:slk j h.l=some (.list el gr g w t xs):=by
  rw[hk,he,<-hg];cases hcast;rfl
 simp only[SV.ok] at hb;have hnl:n=xs.length:=hb.1.2 _ _ _ _ _ hk2;have hlen:((ys.flatMap t.cells).map PV.f).length=ys.length*(s+1):=by rw[zN5,zX,hw]
 rcases run_ite e2 with ⟨z,e3⟩ | ⟨z,e3⟩
 ·refine⟨_,_,?_,⟨.refl _,ho,by simp only[SV.ok];exact hb⟩,e3⟩;simp only[zY,hel,zGC,hs,SV.enc,hnw,zP hk2];rw[show (SO.list el gr g w t xs).enc.el=el from rfl,show Nat.beq (n*(s+1)) (SO.list el gr g w t xs).enc.cs.length=true by rw[qY,hw,hnl];exact aA _];simp only[aA,zOS,cond_true,z]
 ·rcases run_ite e3 with ⟨z2,e4⟩ | ⟨z2,e4⟩
  ·have hle:=zN3 z2;have hp:=vL (f:=fun v=>.list el gr g v t (sJ xs ys m ys.length)) ho hk2 ⟨_,rfl,qO3 (by omega) (zNV _)⟩;refine⟨_,_,?_,⟨hp.1,hp.2,?_⟩,e4⟩
   ·simp only[zY,hel,zGC,hs,SV.enc,hnw,zP hk2];rw[show (SO.list el gr g w t xs).enc.el=el from rfl,show Nat.beq (n*(s+1)) (SO.list el gr g w t xs).enc.cs.length=true by rw[qY,hw,hnl];exact aA _,hlen,qBU];simp only[aA,zOS,cond_true,z,z2,cond_false];rw[show qD (h.put j fun v=>.list el gr g v t (sJ xs ys m ys.length)).l=xY j (SO.list el gr g h.next t (sJ xs ys m ys.length)).enc (qD h.l) from xW j _ _];rw[hw];show some (_,xY j ⟨el,gr,yM ((xs.flatMap t.cells).map PV.f) (m*t.w) _⟩ (qD h.l))=some (_,xY j ⟨el,gr,((sJ xs ys m ys.length).flatMap t.cells).map PV.f⟩ (qD h.l));rw[<-qI9 (zNV _),zOL (by rw[zN5,zX];exact zNV _)]
   ·simp only[SV.ok];exact⟨hb.1.keep hp.1,by omega⟩
  ·rcases run_ite e4 with ⟨z3,e5⟩ | ⟨_,e5⟩
   ·have hmn:m=n:=zNU z3;subst hmn;have:=qEK (base:=.own j g m) ho (by simp only[SV.ok];exact hb.1) hx e5;simpa only[SV.enc] using this
   ·cases e5
def q3K (most:Nat)(i:Int):Option Nat:=if 0<=i∧i<=(most:Int) then some i.toNat else none
def qOG (d most:Nat)(x:Option SV)(K:Nat->zED R):zED R:=match x with
 | none=>K d
 | some v=>(match asI v with
   | some (_,i)=>.bind (q3K most i) K
   | none=>.fail)
theorem vN {d most:Nat}{x:Option SV}{K:Nat->zED R}(e:(qOG d most x K).run=some r):∃ n,bnd d most (x.map SV.enc)=some n∧(n=d∨n<=most)∧(K n).run=some r:=by
 unfold qOG at e;split at e
 ·exact⟨d,rfl,.inl rfl,e⟩
 ·rename_i v;split at e
  ·rename_i k i hi;have e_:=run_bind e;clear e;obtain⟨n,hn,e⟩:=e_;refine⟨n,?_,.inr ?_,e⟩
   ·simp only[zN8,yI hi,fvv,bnd];exact hn
   ·unfold q3K at hn;split at hn
    ·cases hn;omega
    ·cases hn
  ·cases e
def qWI (P:Program)(t:TypeId)(x:SV)(lo hi:Option SV)(h:SH)(K:SV->zED R):zED R:=match x with
 | .d (.list el u) xs=>(match zT P t,szT P el with
   | some el',some s=>cond (Nat.beq el' el&&Nat.beq s u.w) (qOG (List.length xs) (List.length xs) hi fun b=>qOG 0 b lo fun a=>K (.d (.list el u) ((List.drop a xs).take (b - a)))) .fail
   | _,_=>.fail)
 | .c (.slice none 0 0)=>(match zT P t with
   | some el=>cond (szT P el).isSome (qOG 0 0 hi fun _=>qOG 0 0 lo fun _=>K x) .fail
   | none=>.fail)
 | .own k g n=>(match zT P t,slk k h.l with
   | some el',some (.list el _ g' _ u _)=>cond (Nat.beq el' el&&Nat.beq g g') (qOG n n hi fun b=>qOG 0 b lo fun a =>
      .ite (Nat.beq a 0) (K (.sl k g n 0 b)) (.ite (Nat.beq a b) (K (.d (.list el u) [])) (K (.sl k g n a (b - a))))) .fail
   | _,_=>.fail)
 | .sl k g n o m=>(match zT P t,slk k h.l with
   | some el',some (.list el _ g' _ u _)=>cond (Nat.beq el' el&&Nat.beq g g') (qOG m m hi fun b=>qOG 0 b lo fun a =>
      .ite (Nat.beq a 0) (K (.sl k g n o b)) (.ite (Nat.beq a b) (K (.d (.list el u) [])) (K (.sl k g n (o+a) (b - a))))) .fail
   | _,_=>.fail)
 | .ref k 0 w=>(match qPQ P t,slk k h.l with
   | some (m,el2),some (.spc v (.arr el _ xs))=>(match szT P el2 with
     | some 1=>cond (!Nat.beq el2 el&&Nat.beq m w) (.ite (Nat.beq w (List.length xs)) (qOG m m hi fun b=>qOG 0 b lo fun a=>.ite (Nat.beq a 0&&Nat.beq b m) (K (.asl el2 k v m)) .fail) .fail) .fail
     | _=>.fail)
   | _,_=>.fail)
 | _=>.fail
theorem qXV {t:TypeId}{lo hi:Option SV}{K:SV->zED R}(ho:OkH P h)(hx:x.ok h)(e:(qWI P t x lo hi h K).run=some r) :
 ∃ v,wT P t x.enc (lo.map SV.enc) (hi.map SV.enc) (qD h.l)=some v.enc∧v.ok h∧(K v).run=some r:=by
 unfold qWI at e
 have key:∀ {k g n o m w:Nat} {gr:Bool} {el el':TypeId} {u:Ty} {xs:List u.sem},slk k h.l=some (.list el gr g w u xs)->n=xs.length->o+m<=n->g < h.next->zT P t=some el'->Nat.beq el' el=true ->
  ∀ a b,bnd m m (hi.map SV.enc)=some b->b<=m->bnd 0 b (lo.map SV.enc)=some a->a<=b ->
  (zED.ite (Nat.beq a 0) (K (.sl k g n o b)) (.ite (Nat.beq a b) (K (.d (.list el u) [])) (K (.sl k g n (o+a) (b - a))))).run=some r ->
  ∃ v,wT P t (.own k n o m) (lo.map SV.enc) (hi.map SV.enc) (qD h.l)=some v.enc∧v.ok h∧(K v).run=some r:=by
  intro k g n o m w gr el el' u xs hk hn hom hg hel hbe a b hb hbm ha hab e;have hl:=ho.list _ _ _ _ _ _ _ hk
  have pre:wT P t (.own k n o m) (lo.map SV.enc) (hi.map SV.enc) (qD h.l)=some (cond (Nat.beq a 0) (.own k n o b) (cond (Nat.beq a b) (.f (.l el 0 [])) (.own k n (o+a) (b - a)))):=by
   simp only[wT,zP hk,hel];rw[show (SO.list el gr g w u xs).enc.el=el from rfl,hl.2.1,hb];simp only[ha,qY,hn,aA,hbe,zOS,cond_true]
  have hsl:qVT h k g n:=⟨hg,fun el2 gr2 w2 t2 xs2 hk2=>by
   rw[hk] at hk2;cases hk2
   exact hn⟩
  rw[pre]
  rcases run_ite e with ⟨z,e⟩ | ⟨z,e⟩
  ·exact⟨_,by rw[z];simp[SV.enc],by simp only[SV.ok];exact⟨hsl,by omega⟩,e⟩
  ·rcases run_ite e with ⟨z2,e⟩ | ⟨z2,e⟩
   ·exact⟨_,by rw[z,z2];simp[SV.enc,Ty.fv],by simp[SV.ok],e⟩
   ·exact⟨_,by rw[z,z2];simp[SV.enc],by simp only[SV.ok];exact⟨hsl,by omega⟩,e⟩
 split at e
 ·rename_i el u xs;split at e
  ·rename_i el' s hel hs;have e_:=qG e;clear e;obtain⟨c1,e⟩:=e_;rw[zNT] at c1;have hw:s=u.w:=zNU c1.2;have he:el'=el:=zNU c1.1;subst hw he;obtain⟨b,hb,hb2,e1⟩:=vN e;obtain⟨a,ha,ha2,e2⟩:=vN e1;have hbl:b<=xs.length:=by rcases hb2 with q | q <;> omega
   have hab:a<=b:=by rcases ha2 with q | q <;> omega
   refine⟨_,?_,by simp[SV.ok],e2⟩;simp only[SV.enc,Ty.fv,wT,hel,hs,hb,ha,aA,zX,zOS,cond_true];rw[gK,u6]
   cases hq:Nat.beq a b with
   | true =>
     have:a=b:=zNU hq;subst this;simp
   | false =>
     simp only[cond_false,zO4,zQK];rw[zPK (by omega)]
  ·cases e
 ·split at e
  ·rename_i el hel;have e_:=qG e;clear e;obtain⟨c1,e⟩:=e_;obtain⟨b,hb,hb2,e1⟩:=vN e;obtain⟨a,ha,ha2,e2⟩:=vN e1;refine⟨_,?_,by simp[SV.ok],e2⟩;have hb':bnd 0 0 (hi.map SV.enc)=some b:=hb;simp only[SV.enc,fvv,wT,hel,hb',ha,c1,cond_true]
  ·cases e
 ·rename_i k g n;split at e
  ·rename_i el' el gr g' w u xs hel hk;have e_:=qG e;clear e;obtain⟨c1,e⟩:=e_;rw[zNT] at c1;have hg:g=g':=zNU c1.2;subst hg;obtain⟨b,hb,hb2,e1⟩:=vN e;obtain⟨a,ha,ha2,e2⟩:=vN e1;simp only[SV.ok] at hx;refine key hk (hx.2 _ _ _ _ _ hk) (by omega) hx.1 hel c1.1 a b hb (by rcases hb2 with q | q <;> omega) ha (by rcases ha2 with q | q <;> omega) ?_;rw[zOR];exact e2
  ·cases e
 ·rename_i k g n o m;split at e
  ·rename_i el' el gr g' w u xs hel hk;have e_:=qG e;clear e;obtain⟨c1,e⟩:=e_;rw[zNT] at c1;have hg:g=g':=zNU c1.2;subst hg;obtain⟨b,hb,hb2,e1⟩:=vN e;obtain⟨a,ha,ha2,e2⟩:=vN e1;simp only[SV.ok] at hx;exact key hk (hx.1.2 _ _ _ _ _ hk) hx.2 hx.1.1 hel c1.1 a b hb (by rcases hb2 with q | q <;> omega) ha (by rcases ha2 with q | q <;> omega) e2
  ·cases e
 ·rename_i k w;split at e
  ·rename_i m el2 v el ik xs ha hk;split at e
   ·rename_i hs;obtain⟨c1,e0⟩:=qG e;rw[zNT,zOE] at c1;have hmw:=zNU c1.2;subst hmw
    rcases run_ite e0 with ⟨z,e1⟩ | ⟨_,e1⟩
    ·obtain⟨b,hb,_,e2⟩:=vN e1;obtain⟨a,hal,_,e3⟩:=vN e2
     rcases run_ite e3 with ⟨z2,e4⟩ | ⟨_,e4⟩
     ·rw[zNT] at z2;have h0:=zNU z2.1;have h1:=zNU z2.2;subst h0 h1;refine⟨_,?_,?_,e4⟩
      ·simp only[SV.enc,wT,zP hk,ha,hs,hb,hal];show cond (Nat.beq el2 el&&_) _ (cond (Nat.beq b (xs.map fun x=>fvv (.int ik x)).length&&(Nat.beq b b&&(Nat.beq 0 0&&(!false&&(Nat.beq 0 0&&Nat.beq b b))))) _ _)=_;rw[c1.1,zN5,z];simp only[Bool.false_and,cond_false,aA,zOS,Bool.not_false,cond_true]
      ·simp only[SV.ok];refine⟨ho.ver _ _ hk,fun ob hob _=>?_⟩;rw[hk] at hob;cases hob;exact⟨_,_,_,rfl,zNU z⟩
     ·cases e4
    ·cases e1
   ·cases e
  ·cases e
 ·cases e
end
end Go.Sv
namespace Go.Sv
open Go.Idl
variable [Gc]
variable {P:Program}{t t2:TypeId}{a b:ByteArray}{ph:PHp}
theorem bZ {v:Value}(h3:qIS v=true)(h4:ofC v=fvv v):qRI (qB0 H00 v)=some (fvv v):=by
 unfold qB0;rw[h3];show some (ofC v)=_;rw[h4]
theorem qLE {op:BinOp}{v:Value}(h1:zET P (cop (.binOp op t (.const (.string a)) (.const (.string b)) t2)) op t (.string a) (.string b) [] H00=kL P (cop (.binOp op t (.const (.string a)) (.const (.string b)) t2)) [] H00)
 (h2:yE P (execOp (Env.val []) (cop (.binOp op t (.const (.string a)) (.const (.string b)) t2)))=some (.value v)) (h3:qIS v=true) (h4:ofC v=fvv v):jJ P op t t2 (fvv (.string a)) (fvv (.string b)) ph=some (fvv v):=by
 unfold jJ;simp only[fvv,pl,q7N,cond_false];show qRI (zET P _ op t (.string a) (.string b) [] H00)=_;rw[h1];unfold kL;have:zR (kR (Env.val []) (cop (.binOp op t (.const (.string a)) (.const (.string b)) t2)).op.operands.toList)=true:=rfl;rw[if_pos this,h2];exact bZ h3 h4
theorem q5Y (hl:a.size+b.size<=9223372036854775807):jJ P .add t t2 (fvv (.string a)) (fvv (.string b)) ph=some (fvv (.string (a++b))):=by
 refine qLE rfl ?_ rfl rfl;have hm:IntKind.i64.max=9223372036854775807:=rfl;have:¬ (((a.size+b.size:Nat):Int) > IntKind.i64.max):=by rw[hm];omega
 show yE P (do eqGuard .add t (.const (.string a)) (.const (.string b)) (.string a) (.string b);let v <- Op.stringOp .add a b;pure (Next.value v))=_;unfold Op.stringOp;simp only[this,if_false];rfl
theorem q4L:jJ P .eql t t2 (fvv (.string a)) (fvv (.string b)) ph=some (fvv (.bool (a.toList==b.toList))):=qLE rfl rfl rfl rfl
theorem q38:jJ P .neq t t2 (fvv (.string a)) (fvv (.string b)) ph=some (fvv (.bool (!(a.toList==b.toList)))):=qLE rfl rfl rfl rfl
theorem dB {α β:Type}(s:Sem α)(g:α->Sem β):yE P (s >>= g)=(yE P s).bind fun a=>yE P (g a):=kG g s
theorem dP {α:Type}(a:α):yE P (pure a:Sem α)=some a:=rfl
theorem qZS {ts:Array TypeId}(hs:qYN P ts=true):∃ t,ts[0]?=some t∧P.underlying t=some .string:=by
 unfold qYN at hs
 cases h0:ts[0]? with
 | none=>rw[h0] at hs;cases hs
 | some t =>
   rw[h0] at hs;simp only[zOD] at hs;split at hs
   ·rename_i hq;exact⟨t,rfl,hq⟩
   ·cases hs
theorem zAQ {t:TypeId}{ts:Array TypeId}{ty:TypeId}(h0:ts[0]?=some t)(hu:P.underlying t=some .string):yE P (Go.Builtin.len_ ts ty #[.string a])=some (goInt a.size):=by
 unfold Go.Builtin.len_;simp only[h0,dB,yF,hu,zOD,zP8,zOM];rfl
theorem qQU {x:Operand}{ts:Array TypeId}{ty:TypeId}{env:Env}(hs:qYN P ts=true)(hx:env.val x=.string a) :
 qRI (kL P (cop (.call ⟨.builtin .len,#[x],ts⟩) ty) env H00)=some (fvv (.int .i64 (a.size:Int))):=by
 have h2:kR env.val (cop (.call ⟨.builtin .len,#[x],ts⟩) ty).op.operands.toList=[env.val x]:=rfl;unfold kL;rw[h2];obtain⟨t,h0,hu⟩:=qZS hs;have hp:zR [env.val x]=true:=by rw[hx];rfl
 rw[if_pos hp]
 have he:yE P (execOp env.val (cop (.call ⟨.builtin .len,#[x],ts⟩) ty))=some (.value (goInt a.size)):=by
  simp only[cop,execOp,resolve,List.map_toArray,zOC,zP3,hx];show yE P (do let v <- Go.Builtin.len_ ts ty #[.string a];pure (Next.value v))=_;rw[dB,zAQ h0 hu];rfl
 rw[he];exact bZ rfl rfl
def q6P (s:ByteArray)(i:Int):Option Int:=if 0<=i then (s[i.toNat]?).map fun b=>(b.toNat:Int) else none
theorem q2H {t:TypeId}{s:ByteArray}{k:IntKind}{i c:Int}{ty:TypeId}(hu:P.underlying t=some .string)(h:q6P s i=some c):qLZ P (.index t (.const (.string s)) (.const (.int k i))) ty=some (fvv (.int .u8 c)):=by
 unfold qLZ kL;have hp:zR (kR (Env.val []) (cop (.index t (.const (.string s)) (.const (.int k i))) ty).op.operands.toList)=true:=rfl;rw[if_pos hp]
 have he:yE P (execOp (Env.val []) (cop (.index t (.const (.string s)) (.const (.int k i))) ty))=some (.value (.int .u8 c)):=by
  show yE P (do let v <- Instr.index t (.string s) (.int k i);pure (Next.value v))=_;unfold q6P at h;split at h
  ·rename_i hc;obtain⟨b,hb,rfl⟩:=zN4.1 h;unfold Instr.index;simp only[dB,yF,hu,zOD];have h0:yE P (asIntOf (.int k i))=some (k,i):=rfl;rw[h0];simp only[zOD,if_pos hc,hb,dP]
  ·cases h
 rw[he];exact bZ rfl rfl
theorem tL {k:IntKind}{i:Int}{y n:Nat}{code:BoundsCode}(h:(if 0<=i∧i<=(y:Int) then some i.toNat else none)=some n):yE P (Instr.sliceBound (.int k i) y code)=some n:=by
 unfold Instr.sliceBound;rw[dB];have h0:yE P (asIntOf (.int k i))=some (k,i):=rfl;rw[h0];simp only[zOD];split at h
 ·rename_i hc;rw[if_pos hc];cases h;rfl
 ·cases h
theorem qS9 {d most n:Nat}{x:Option PV}(h:bnd d most x=some n):(x=none∧n=d)∨∃ k i,x=some (fvv (.int k i))∧(if 0<=i∧i<=(most:Int) then some i.toNat else none)=some n:=by
 unfold bnd at h;split at h
 ·cases h;exact .inl ⟨rfl,rfl⟩
 ·rename_i k i;exact .inr ⟨k,i,rfl,h⟩
 ·cases h
theorem q0T {t:TypeId}{s:ByteArray}{lo hi:Option Operand}{l u:Nat}{env:List PV}{ty:TypeId}(hu:P.underlying t=some .string)(h1:bnd s.size s.size (hi.map (qK env))=some u)(h2:bnd 0 u (lo.map (qK env))=some l) :
 qLZ P (.slice t (.const (.string s)) (lo.map fun a=>.const ((pl (qK env a)).getD undef)) (hi.map fun a=>.const ((pl (qK env a)).getD undef)) none) ty=some (fvv (.string (s.extract l u))):=by
 have opt:∀ {o:Option Operand} {d most n:Nat},bnd d most (o.map (qK env))=some n->(o=none∧n=d)∨∃ k i,(o.map fun a=>Operand.const ((pl (qK env a)).getD undef))=some (.const (.int k i))∧(if 0<=i∧i<=(most:Int) then some i.toNat else none)=some n:=fun {o d most n} h=>by
  rcases qS9 h with ⟨q,e⟩ | ⟨k,i,q,e⟩
  ·cases o with
   | none=>exact .inl ⟨rfl,e⟩
   | some a=>cases q
  ·cases o with
   | none=>cases q
   | some a =>
     have q:qK env a=fvv (.int k i):=by simpa using q
     exact .inr ⟨k,i,by simp[q,fvv,pl],e⟩
 unfold qLZ kL
 have hk:∀ (lo' hi':Option Operand) (vl vh:Option Value),lo'.map (Env.val [])=vl->hi'.map (Env.val [])=vh->zR (kR (Env.val []) (cop (.slice t (.const (.string s)) lo' hi' none) ty).op.operands.toList)=true ->
  yE P (Instr.sliceBounds false s.size s.size vl vh none)=some (l,u,s.size)->qRI (if zR (kR (Env.val []) (cop (.slice t (.const (.string s)) lo' hi' none) ty).op.operands.toList)=true then qFB H00 (yE P (execOp (Env.val []) (cop (.slice t (.const (.string s)) lo' hi' none) ty))) else none)=some (fvv (.string (s.extract l u))):=by
  intro lo' hi' vl vh e1 e2 hp hb;rw[if_pos hp]
  have he:yE P (execOp (Env.val []) (cop (.slice t (.const (.string s)) lo' hi' none) ty))=some (.value (.string (s.extract l u))):=by
   show yE P (do let v <- Instr.sliceAt t (.string s) (lo'.map (Env.val [])) (hi'.map (Env.val [])) none;pure (Next.value v))=_;rw[e1,e2];unfold Instr.sliceAt;simp only[dB,yF,hu,zOD];unfold Instr.slice;simp only[dB,yF,hu,zOD];simp only[zR9,zQA,if_false,dB,hb,zOD,dP]
  rw[he];exact bZ rfl rfl
 have hB:∀ (vl vh:Option Value),(vh=none∧u=s.size∨∃ k i,vh=some (.int k i)∧(if 0<=i∧i<=(s.size:Int) then some i.toNat else none)=some u)->(vl=none∧l=0∨∃ k i,vl=some (.int k i)∧(if 0<=i∧i<=(u:Int) then some i.toNat else none)=some l) ->
  yE P (Instr.sliceBounds false s.size s.size vl vh none)=some (l,u,s.size):=by
  intro vl vh a b;unfold Instr.sliceBounds;rcases a with ⟨rfl,rfl⟩ | ⟨k,i,rfl,ha⟩ <;> rcases b with ⟨rfl,rfl⟩ | ⟨k',i',rfl,hb⟩ <;> simp only[dB,dP,zOD,zR9,zQA,if_false]
  ·rw[tL hb];rfl
  ·rw[tL ha];rfl
  ·rw[tL ha];simp only[zOD];rw[tL hb];rfl
 rcases opt h1 with ⟨rfl,e1⟩ | ⟨k,i,e1,f1⟩ <;> rcases opt h2 with ⟨rfl,e2⟩ | ⟨k',i',e2,f2⟩
 ·exact hk none none none none rfl rfl rfl (hB _ _ (.inl ⟨rfl,e1⟩) (.inl ⟨rfl,e2⟩))
 ·rw[e2];exact hk _ none _ none rfl rfl rfl (hB _ _ (.inl ⟨rfl,e1⟩) (.inr ⟨k',i',rfl,f2⟩))
 ·rw[e1];exact hk none _ none _ rfl rfl rfl (hB _ _ (.inr ⟨k,i,rfl,f1⟩) (.inl ⟨rfl,e2⟩))
 ·rw[e1,e2];exact hk _ _ _ _ rfl rfl rfl (hB _ _ (.inr ⟨k,i,rfl,f1⟩) (.inr ⟨k',i',rfl,f2⟩))
theorem q6V {s d:TypeId}{k k':IntKind}{x:Int}{u:TypeDesc}(hs:P.underlying s=some u)(hd:P.underlying d=some (.int k')):aK P (fun a=>.convert s d a) (fvv (.int k x))=some (fvv (.int k' (k'.wrap x))):=by
 have hl:pl (fvv (.int k x))=some (.int k x):=rfl;unfold aK;rw[hl];unfold qLZ kL;have hp:zR (kR (Env.val []) (cop (.convert s d (.const (.int k x)))).op.operands.toList)=true:=rfl;simp only[hp,if_true]
 have he:yE P (execOp (Env.val []) (cop (.convert s d (.const (.int k x)))))=some (.value (.int k' (k'.wrap x))):=by
  show yE P (do let v <- convert s d (.int k x);pure (Next.value v))=_;unfold convert;simp only[dB,yF,hs,hd,zOD];rfl
 rw[he];exact bZ rfl rfl
theorem q05 {s d:TypeId}{x:ByteArray}{u:TypeDesc}(hs:P.underlying s=some u)(hd:P.underlying d=some .string):aK P (fun a=>.convert s d a) (fvv (.string x))=some (fvv (.string x)):=by
 have hl:pl (fvv (.string x))=some (.string x):=rfl;unfold aK;rw[hl];unfold qLZ kL;have hp:zR (kR (Env.val []) (cop (.convert s d (.const (.string x)))).op.operands.toList)=true:=rfl;simp only[hp,if_true]
 have he:yE P (execOp (Env.val []) (cop (.convert s d (.const (.string x)))))=some (.value (.string x)):=by
  show yE P (do let v <- convert s d (.string x);pure (Next.value v))=_;unfold convert;simp only[dB,yF,hs,hd,zOD];cases u <;> rfl
 rw[he];exact bZ rfl rfl
end Go.Sv
namespace Go.Sv
open Go.Idl
noncomputable section
variable [Gc]
variable [Yl]
variable {P:Program}{h:SH}{R:Type}{r:R}
def qEE:SV->Option Value
 | .d (.int k) x=>some (.int k x)
 | .d .bool x=>some (.bool x)
 | .d .str x=>some (.string x)
 | .c v=>some v
 | _=>none
theorem pJ {v:SV}{a:Value}(e:qEE v=some a):v.enc=fvv a:=by
 unfold qEE at e;split at e <;> cases e <;> simp[SV.enc,Ty.fv,fvv]
def qF0:List SV->Option (List Value)
 | []=>some []
 | v::l=>match qEE v,qF0 l with
   | some a,some b=>some (a::b)
   | _,_=>none
def mF:SV->Option Value
 | .agg l=>(match qF0 l with
   | some vs=>some (.agg vs.toArray)
   | none=>none)
 | v=>qEE v
theorem qEO:∀ {l:List SV} {vs:List Value},qF0 l=some vs->qJS (qC l)=some vs
 | [],vs,e=>by cases e;simp[qC,qJS]
 | v::l,vs,e=>by
   unfold qF0 at e;split at e
   ·rename_i a b ha hb;cases e;simp only[qC,pJ ha,fvv,qJS,pl1,qEO hb]
   ·cases e
theorem gG {v:SV}{a:Value}(e:mF v=some a):pl v.enc=some a:=by
 unfold mF at e;split at e
 ·rename_i l;split at e
  ·rename_i vs hvs;cases e;simp only[SV.enc,pl,qEO hvs]
  ·cases e
 ·rw[pJ e];rfl
def zDL (op:BinOp)(a b:ByteArray)(K:SV->zED R)(F:zED R):zED R:=match op with
 | .add=>.ite (Nat.ble (a.size+b.size) 9223372036854775807) (K (.d .str (a++b))) .fail
 | .eql=>K (.d .bool (a.toList==b.toList))
 | .neq=>K (.d .bool (!(a.toList==b.toList)))
 | _=>F
def qQC (P:Program)(t:TypeId):Bool:=match P.underlying t with
 | some .string=>true
 | _=>false
omit [Yl] in
theorem qDQ {t:TypeId}(e:qQC P t=true):P.underlying t=some .string:=by
 unfold qQC at e;split at e
 ·assumption
 ·cases e
def qMJ (P:Program)(t:TypeId)(s:ByteArray)(ix:SV)(K:SV->zED R):zED R:=match asI ix with
 | some (_,i)=>cond (qQC P t) (.bind (q6P s i) fun c=>K (.d (.int .u8) c)) .fail
 | none=>.fail
def qWS (P:Program)(t:TypeId)(s:ByteArray)(lo hi:Option SV)(K:SV->zED R):zED R :=
 cond (qQC P t) (qOG s.size s.size hi fun b=>qOG 0 b lo fun a=>K (.d .str (s.extract a b))) .fail
def q1T (P:Program)(s d:TypeId)(x:SV)(K:SV->zED R)(F:zED R):zED R:=match P.underlying s,P.underlying d with
 | some _,some (.int k')=>(match asI x with
   | some (_,a)=>K (.d (.int k') (k'.wrap a))
   | none=>F)
 | some _,some .string=>(match asS x with
   | some a=>K (.d .str a)
   | none=>F)
 | _,_=>F
def Ty.vals:(t:Ty)->List Value->Option (t.sem×List Value)
 | .int k,.int k' x::l=>cond (decide (k'=k)) (some (x,l)) none
 | .bool,.bool x::l=>some (x,l)
 | .str,.string x::l=>some (x,l)
 | .unit,l=>some ((),l)
 | .pair a b,l=>match a.vals l with
   | some (x,l1)=>(match b.vals l1 with
     | some (y,l2)=>some ((x,y),l2)
     | none=>none)
   | none=>none
 | _,_=>none
def Ty.ofV (t:Ty)(v:Value):Option t.sem:=cond t.one (match t.vals [v] with
 | some (x,[])=>some x
 | _=>none) (match v with
 | .agg a=>(match t.vals a.toList with
   | some (x,[])=>some x
   | _=>none)
 | _=>none)
def q70 (t:Ty)(x:t.sem):SV:=cond t.one (.d t x) (.agg (t.svs x))
omit [Yl] in
theorem qTG (t:Ty)(x:t.sem):(q70 t x).ok h:=by
 unfold q70
 cases t.one with
 | true=>simp[SV.ok]
 | false=>simp only[cond_false,SV.ok];exact qEL t x
omit [Yl] in
theorem qIT:∀ {a b:List Value},jX okC a=true->jX okC b=true->jX okC (a++b)=true
 | [],_,_,h=>h
 | x::a,b,h1,h2=>by
   rw[vB,zNT] at h1;rw[zPX,vB,h1.1,qIT h1.2 h2];rfl
omit [Yl] in
theorem dJ:∀ {t:Ty} {l l':List Value} {x:t.sem},t.vals l=some (x,l')->∃ us,l=us++l'∧jX okC us=true∧kR fvv us=(t.cells x).map PV.f
 | .int k,l,l',x,e=>by
   cases l with
   | nil=>cases e
   | cons v l =>
     cases v <;> try (cases e;done)
     rename_i k' y;have e:cond (decide (k'=k)) (some ((y:Int),l)) none=some (x,l'):=e
     cases hk:decide (k'=k) with
     | false=>rw[hk] at e;cases e
     | true =>
       rw[hk] at e;cases e;have:k'=k:=by simpa using hk
       subst this;exact⟨[.int k' x],rfl,rfl,rfl⟩
 | .bool,l,l',x,e=>by
   cases l with
   | nil=>cases e
   | cons v l =>
     cases v <;> try (cases e;done)
     cases e;exact⟨[.bool x],rfl,rfl,rfl⟩
 | .str,l,l',x,e=>by
   cases l with
   | nil=>cases e
   | cons v l =>
     cases v <;> try (cases e;done)
     cases e;exact⟨[.string x],rfl,rfl,rfl⟩
 | .unit,l,l',x,e=>by
   have e:some ((),l)=some ((),l'):=by cases l <;> exact e
   cases e;exact⟨[],rfl,rfl,rfl⟩
 | .list _ _,l,l',x,e=>by cases l <;> cases e
 | .raw,l,l',x,e=>by cases l <;> cases e
 | .ol _ _,l,l',x,e=>by cases l <;> cases e
 | .nif,l,l',x,e=>by cases l <;> cases e
 | .pair a b,l,l',x,e=>by
   have e:(match a.vals l with
    | some (x,l1)=>(match b.vals l1 with
      | some (y,l2)=>some ((x,y),l2)
      | none=>none)
    | none=>none)=some (x,l'):=by cases l <;> exact e
   split at e
   ·rename_i x1 l1 h1;split at e
    ·rename_i y l2 h2;cases e;obtain⟨us,rfl,u1,u2⟩:=dJ h1;obtain⟨ws,rfl,w1,w2⟩:=dJ h2;refine⟨us++ws,by rw[zOT],?_,?_⟩
     ·exact qIT u1 w1
     ·show _=(a.cells x1++b.cells y).map PV.f;rw[xI] at u2 w2 ⊢;rw[zO0,zO0,u2,w2]
    ·cases e
   ·cases e
theorem qTC {t:Ty}{v:Value}{x:t.sem}(e:t.ofV v=some x):ofC v=(q70 t x).enc:=by
 unfold Ty.ofV at e;unfold q70
 cases ht:t.one with
 | true =>
   rw[ht] at e;simp only[cond_true] at e ⊢;split at e
   ·rename_i y hy;cases e;obtain⟨us,h1,h2,h3⟩:=dJ hy;rw[zPN] at h1;subst h1;rw[Ty.cells_one ht] at h3
    have h3:fvv v=.f (t.fv x):=by
     have:kR fvv [v]=[fvv v]:=rfl;rw[this] at h3;simpa using h3
    have h2:okC v=true:=by
     rw[vB,zNT] at h2;exact h2.1
    have:ofC v=fvv v:=by
     unfold okC at h2;rw[zNT] at h2
     cases v <;> first | (exact absurd h2.2 (by decide)) | skip
     all_goals first | (show q4J _=_;unfold q4J okC;simp[h2.1,h2.2]) | (simp[oneCell] at h2)
    rw[this,h3];simp[SV.enc]
   ·cases e
 | false =>
   rw[ht] at e;simp only[cond_false] at e ⊢;split at e
   ·rename_i a;split at e
    ·rename_i y hy;cases e;obtain⟨us,h1,h2,h3⟩:=dJ hy;rw[zPN] at h1;show cond (jX okC a.toList) (PV.agg (kR fvv a.toList)) .unk=_;rw[h1,h2,h3];simp only[cond_true,SV.enc,gW]
    ·cases e
   ·cases e
def smp (x:SV)(h:SH):Option (Nat×List (Value×Value)):=match x with
 | .mp k=>(match slk k h.l with
   | some (.spc _ (.map es))=>some (k,es)
   | _=>none)
 | _=>none
omit [Yl] in
theorem aN:∀ (n:Nat) (es:List (Value×Value)) (i:Nat),(kC n es)[i]?=(es[i]?).map fun p=>(⟨p.1,p.2,n+i⟩:MapEntry)
 | n,[],i=>by simp[kC]
 | n,p::es,0=>by simp[kC]
 | n,p::es,i+1=>by
   show (kC (n+1) es)[i]?=_;rw[aN (n+1) es i];have:n+1+i=n+(i+1):=by omega
   rw[this];simp
omit [Yl] in
theorem qIF:∀ (n:Nat) (es:List (Value×Value)),(kC n es).length=es.length
 | n,[]=>rfl
 | n,p::es=>by
   show (kC (n+1) es).length+1=_;rw[qIF,zOI]
omit [Yl] in
theorem qJ6:∀ (n:Nat) (es:List (Value×Value)) (k v:Value),kC n (es++[(k,v)])=kC n es++[⟨k,v,n+es.length⟩]
 | n,[],k,v=>rfl
 | n,p::es,k,v=>by
   show _::kC (n+1) (es++[(k,v)])=_;rw[qJ6 (n+1) es k v];show _=_::(kC (n+1) es++_);rw[zOI];have:n+1+es.length=n+(es.length+1):=by omega
   rw[this]
omit [Yl] in
theorem qXF (es:List (Value×Value))(i:Nat)(k v:Value)(f:MapEntry->MapEntry)(hf:∀ p,es[i]?=some p->f ⟨p.1,p.2,i⟩=⟨k,v,i⟩):kC 0 (es.set i (k,v))=(kC 0 es).modify i f:=by
 apply zPB;intro j;rw[aN,List.getElem?_modify,aN,zON,zOR];by_cases hij:i=j
 ·subst hij;rw[if_pos rfl];simp only[if_true]
  cases he:es[i]? with
  | none =>
    have:¬ i < es.length:=fun hl=>by rw[zNX hl] at he;cases he
    rw[if_neg this];rfl
  | some p =>
    have:=(zN0.1 he).1;rw[if_pos this];simp[hf p he]
 ·rw[if_neg hij];simp only[if_neg hij];cases es[j]? <;> rfl
theorem q82 {x:SV}{k:Nat}{es:List (Value×Value)}(hs:spec P 1000000001=true)(e:smp x h=some (k,es)):sZ P x.enc (qD h.l)=some (k,(SpO.map es).enc,es.length,kC 0 es)∧∃ w,slk k h.l=some (.spc w (.map es)):=by
 unfold smp at e;split at e
 ·rename_i k';split at e
  ·rename_i w es' hk;cases e;refine⟨?_,w,hk⟩;simp only[SV.enc,sZ,zP hk]
   show cond (spec P 1000000001&&Nat.beq 1000000001 1000000001) (match mapOf (wW es.length (kC 0 es)) with
    | some (c,es')=>some (k,(SO.spc w (SpO.map es)).enc,c,es')
    | none=>none) none=_
   rw[hs,qQL];rfl
  ·cases e
 ·cases e
def q4I (P:Program)(kt:TypeId)(k:Value)(es:List (Value×Value)):Option Bool:=(eZ P kt k (kC 0 es)).map Option.isSome
def q6N (P:Program)(kt:TypeId)(t:Ty)(k:Value)(es:List (Value×Value)):Option t.sem:=match eZ P kt k (kC 0 es) with
 | some (some i)=>(match es[i]? with
   | some p=>t.ofV p.2
   | none=>none)
 | _=>none
def q6A (ok:Bool)(t:Ty)(x:t.sem)(b:Bool):SV:=cond ok (.tup [q70 t x,.c (.bool b)]) (q70 t x)
theorem qN0 {ok b:Bool}{t:Ty}{x:t.sem}{v:Value}(e:t.ofV v=some x):q31 ok v b=(q6A ok t x b).enc:=by
 unfold q31 q6A
 cases ok with
 | true=>simp[qTC e,SV.enc,qC]
 | false=>exact qTC e
omit [Yl] in
theorem qS0 {ok b:Bool}{t:Ty}{x:t.sem}:(q6A ok t x b).ok h:=by
 unfold q6A
 cases ok with
 | true=>simp only[cond_true,SV.ok,okL,and_true];exact qTG t x
 | false=>exact qTG t x
def qMT (P:Program)(t:TypeId)(m kx:SV)(ok:Bool)(h:SH)(K:SV->zED R):zED R:=match P.underlying t,smp m h,mF kx with
 | some (.map kt et),some (_,es),some kv=>(match qDM P 8 et,gM P et with
   | some vt,some z=>(match vt.ofV z with
     | some z0=>cond (spec P 1000000001&&yZ z) (.bind (q4I P kt kv es) fun b=>.ite b (.bind (q6N P kt vt kv es) fun x=>K (q6A ok vt x true)) (K (q6A ok vt z0 false))) .fail
     | none=>.fail)
   | _,_=>.fail)
 | _,_,_=>.fail
theorem qRO {t:TypeId}{m kx:SV}{ok:Bool}{K:SV->zED R}(e:(qMT P t m kx ok h K).run=some r):∃ v,uW P t m.enc kx.enc ok (qD h.l)=some v.enc∧v.ok h∧(K v).run=some r:=by
 unfold qMT at e;split at e
 case h_2=>cases e
 rename_i kt et k es kv hu hm hk;split at e
 case h_2=>cases e
 rename_i vt z hvt hz;split at e
 case h_2=>cases e
 rename_i z0 hz0;obtain⟨c,e1⟩:=qG e;rw[zNT] at c;obtain⟨b,hb,e2⟩:=run_bind e1;obtain⟨h1,w,h2⟩:=q82 c.1 hm
 have pre:uW P t m.enc kx.enc ok (qD h.l)=(match eZ P kt kv (kC 0 es) with
  | some (some i)=>(match (kC 0 es)[i]? with
    | some e=>some (q31 ok e.val true)
    | none=>none)
  | some none=>some (q31 ok z false)
  | none=>none):=by
  unfold uW;rw[hu,h1,gG hk];simp only[hz,c.2,cond_true];rfl
 rw[pre];unfold q4I at hb
 cases hf:eZ P kt kv (kC 0 es) with
 | none=>rw[hf] at hb;cases hb
 | some o =>
   rw[hf] at hb
   cases o with
   | none =>
     cases hb;refine⟨_,by simp only[qN0 hz0],qS0,e2⟩
   | some i =>
     cases hb;obtain⟨x,hx,e3⟩:=run_bind (show (zED.bind (q6N P kt vt kv es) fun x=>K (q6A ok vt x true)).run=some r from e2);unfold q6N at hx;rw[hf] at hx;simp only at hx;split at hx
     ·rename_i p hp;refine⟨_,?_,qS0,e3⟩;simp only[aN,hp,zN8,qN0 hx]
     ·cases hx
def q7P (P:Program)(kt:TypeId)(k v:Value)(es:List (Value×Value)):Option (List (Value×Value)):=match eZ P kt k (kC 0 es) with
 | some (some i)=>(match es[i]? with
   | some p=>cond (Instr.sameBits 10000 p.1 k) (some (es.set i (k,v))) none
   | none=>none)
 | some none=>some (es++[(k,v)])
 | none=>none
def rJ (P:Program)(t:TypeId)(m kx x:SV)(h:SH)(K:SV->SH->zED R):zED R:=match P.underlying t,smp m h,mF kx,mF x with
 | some (.map kt _),some (k,es),some kv,some xv=>cond (spec P 1000000001&&zK xv) (.bind (q7P P kt kv xv es) fun es'=>K (.tup []) (h.put k fun v=>.spc v (.map es'))) .fail
 | _,_,_,_=>.fail
theorem qFR {k:Nat}{es es':List (Value×Value)}{w:Nat}(ho:OkH P h)(hk:slk k h.l=some (.spc w (.map es))):Keep h (h.put k fun v=>.spc v (.map es'))∧OkH P (h.put k fun v=>.spc v (.map es')) ∧
 qD (h.put k fun v=>.spc v (.map es')).l=xY k { (SpO.map es).enc with cs:=wW es'.length (kC 0 es') } (qD h.l):=by
 have:=vL (f:=fun v=>.spc v (.map es')) ho hk rfl;exact⟨this.1,this.2,xW k _ _⟩
theorem qGW {t:TypeId}{m kx x:SV}{K:SV->SH->zED R}(ho:OkH P h)(e:(rJ P t m kx x h K).run=some r) :
 ∃ h',jI P t m.enc kx.enc x.enc (qD h.l)=some (qD h'.l)∧Keep h h'∧OkH P h'∧(K (.tup []) h').run=some r:=by
 unfold rJ at e;split at e
 case h_2=>cases e
 rename_i kt et k es kv xv hu hm hkv hxv;obtain⟨c,e1⟩:=qG e;rw[zNT] at c;obtain⟨es',hs,e2⟩:=run_bind e1;obtain⟨h1,w,h2⟩:=q82 c.1 hm;obtain⟨p1,p2,p3⟩:=qFR (es':=es') ho h2;refine⟨_,?_,p1,p2,e2⟩;unfold jI;rw[hu,h1,gG hkv,gG hxv,p3];simp only[c.2,cond_true];unfold q7P at hs
 cases hf:eZ P kt kv (kC 0 es) with
 | none=>rw[hf] at hs;cases hs
 | some o =>
   rw[hf] at hs
   cases o with
   | none =>
     cases hs;simp only[qJ6,zOG,zOI,zR1,zOR]
   | some i =>
     simp only at hs ⊢;split at hs
     ·rename_i p hp
      cases hb:Instr.sameBits 10000 p.1 kv with
      | false=>rw[hb] at hs;cases hs
      | true =>
        rw[hb] at hs;cases hs;simp only[aN,hp,zN8,hb,cond_true];rw[qXF es i kv xv (fun e=>{ e with key:=kv,val:=xv }) (fun _ _=>rfl),zOY]
     ·cases hs
def qQB (P:Program)(k:Nat)(h:SH)(K:SV->SH->zED R):zED R:=cond (spec P 1000000001) (K (.mp k) (h.new k fun v=>.spc v (.map []))) .fail
theorem qLL {k:Nat}{K:SV->SH->zED R}(ho:OkH P h)(e:(qQB P k h K).run=some r):∃ v h',cB P k (qD h.l)=some (v.enc,qD h'.l)∧Post P h h' v∧(K v h').run=some r:=by
 obtain⟨c,e1⟩:=qG e;have hp:=xE (k:=k) (f:=fun v=>.spc v (.map [])) ho rfl;refine⟨_,_,?_,⟨hp.1,hp.2,by simp[SV.ok]⟩,e1⟩;unfold cB;rw[c];simp only[cond_true,qDD,SV.enc];rfl
def q7F (P:Program)(ts:Array TypeId)(x:SV)(h:SH):Option SV:=match smp x h with
 | some (_,es)=>cond (spec P 1000000001&&zAN P ts) (some (.d (.int .i64) ((List.length es:Nat):Int))) none
 | none=>none
theorem qY7 {ts:Array TypeId}{x v:SV}(e:q7F P ts x h=some v):qC9 P ts x.enc (qD h.l)=some v.enc∧v.ok h:=by
 unfold q7F at e;split at e
 case h_2=>cases e
 rename_i k es hm
 cases hc:(spec P 1000000001&&zAN P ts) with
 | false=>rw[hc] at e;cases e
 | true =>
   rw[hc] at e;cases e;rw[zNT] at hc;refine⟨?_,by simp[SV.ok]⟩;unfold smp at hm;split at hm
   case h_2=>cases hm
   rename_i k';split at hm
   case h_2=>cases hm
   rename_i w es' hk;cases hm
   have h1:rW P (SV.enc (.mp k)) (qD h.l)=some (wW es.length (kC 0 es)):=by
    simp only[SV.enc,rW,zP hk];show cond (!false&&(spec P 1000000001&&Nat.beq 1000000001 1000000001)) (some (wW es.length (kC 0 es))) none=_;rw[hc.1];rfl
   unfold qC9;rw[h1];simp only[hc.2,cond_true,u7,qIF];have:(3*es.length+1) / 3=es.length:=by omega
   rw[this];simp[SV.enc,Ty.fv,fvv]
end
end Go.Sv
namespace Go.Sv
open Go.Idl
variable {a:Int}{b:Bool}{env:List SV}{k:IntKind}{o:Oper}{op:BinOp}{ph:PHp}{s:ByteArray}{t t2 ty:TypeId}{ts:Array TypeId}{x y:SV}
noncomputable section
variable [Gc]
variable [Yl]
variable {P:Program}{h:SH}{R:Type}{r:R}
def q60 (k:IntKind):PV->Option Int
 | .f (.v (.int k' x))=>cond (decide (k'=k)) (some x) none
 | _=>none
def q4V:PV->Option Bool
 | .f (.v (.bool x))=>some x
 | _=>none
def q48:PV->Option ByteArray
 | .f (.v (.string x))=>some x
 | _=>none
def Ty.zKU:(t:Ty)->PV->Option t.sem
 | .int k,p=>q60 k p
 | .bool,p=>q4V p
 | .str,p=>q48 p
 | .raw,_=>none
 | .ol _ _,_=>none
 | .nif,_=>none
 | .unit,_=>none
 | .list _ _,_=>none
 | .pair _ _,_=>none
omit [Yl] in
theorem q7J:∀ {t:Ty} {p:PV} {x:t.sem},t.zKU p=some x->p=.f (t.fv x)
 | .int k,p,x,e=>by
   have e1:q60 k p=some x:=e;clear e;unfold q60 at e1;split at e1
   ·rename_i k' y;have e:=e1;clear e1
    cases hk:decide (k'=k) with
    | false=>rw[hk] at e;cases e
    | true =>
      rw[hk] at e;cases e;have:k'=k:=by simpa using hk
      subst this;rfl
   ·cases e1
 | .bool,p,x,e=>by
   have e1:q4V p=some x:=e;clear e;unfold q4V at e1;split at e1
   ·cases e1;rfl
   ·cases e1
 | .str,p,x,e=>by
   have e1:q48 p=some x:=e;clear e;unfold q48 at e1;split at e1
   ·cases e1;rfl
   ·cases e1
 | .unit,_,_,e=>by cases e
 | .list _ _,_,_,e=>by cases e
 | .pair _ _,_,_,e=>by cases e
 | .raw,_,_,e=>by cases e
 | .ol _ _,_,_,e=>by cases e
 | .nif,_,_,e=>by cases e
def Ty.zF8 (t:Ty)(o:Option PV):Option t.sem:=o.bind t.zKU
theorem qPM {t:Ty}{o:Option PV}{x:t.sem}(e:t.zF8 o=some x):o=some (SV.d t x).enc:=by
 obtain⟨p,h1,h2⟩:=zPS.1 e;rw[h1,q7J h2];simp[SV.enc]
def sint (op:BinOp)(k:IntKind)(a b:Int)(K:SV->zED R)(F:zED R):zED R:=match op with
 | .lss=>K (.d .bool (decide (a < b)))
 | .leq=>K (.d .bool (decide (a<=b)))
 | .gtr=>K (.d .bool (decide (b < a)))
 | .geq=>K (.d .bool (decide (b<=a)))
 | .eql=>K (.d .bool (a==b))
 | .neq=>K (.d .bool (a != b))
 | .add=>K (.d (.int k) (k.wrap (a+b)))
 | .sub=>K (.d (.int k) (k.wrap (a - b)))
 | .mul=>K (.d (.int k) (k.wrap (a*b)))
 | .quo=>.bind (zBD k a b) fun c=>K (.d (.int k) c)
 | .rem=>.bind (zBG a b) fun c=>K (.d (.int k) c)
 | _=>F
omit [Yl] in
theorem q62 {x y:PV}{a b:Value}(hx:pl x=some a)(hy:pl y=some b):jJ P op t t2 x y ph=jJ P op t t2 (fvv a) (fvv b) []:=by
 unfold jJ;rw[hx,hy];rfl
def qQ6 (P:Program)(op:BinOp)(t t2 ty:TypeId)(x y:SV)(K:SV->zED R):zED R:=match mF x,mF y,qDM P 8 ty with
 | some a,some b,some u=>.bind (u.zF8 (jJ P op t t2 (fvv a) (fvv b) [])) fun z=>K (.d u z)
 | _,_,_=>.fail
def zCG (P:Program)(t:TypeId)(x y:SV)(h:SH):Option Bool:=match y with
 | .c (.slice none _ _)=>cond (zT P t).isSome (match x with
   | .own k g n=>(match slk k h.l with
     | some (.list _ gr g' _ _ _)=>cond (Nat.beq g g') (some (gr&&Nat.beq n 0)) none
     | _=>none)
   | .sl k g n _ _=>(match slk k h.l with
     | some (.list _ gr g' _ _ _)=>cond (Nat.beq g g') (some (gr&&Nat.beq n 0)) none
     | _=>none)
   | _=>none) none
 | .c .nilFunc=>cond (qS1 P t) (match x with
   | .fn _ _ _=>some false
   | _=>none) none
 | _=>none
theorem qTU (ho:OkH P h)(hx:x.ok h)(e:zCG P t x y h=some b):qD1 P t x.enc y.enc (qD h.l)=some b∧pl x.enc=none:=by
 unfold zCG at e;split at e
 ·rename_i n c
  cases h1:(zT P t).isSome with
  | false=>rw[h1] at e;cases e
  | true =>
    rw[h1] at e;simp only[cond_true] at e;split at e
    ·rename_i k g n;split at e
     ·rename_i el gr g' w u xs hk
      cases h2:Nat.beq g g' with
      | false=>rw[h2] at e;cases e
      | true =>
        rw[h2] at e;cases e;have hg:g=g':=zNU h2;subst hg;simp only[SV.ok] at hx;have hn:=hx.2 _ _ _ _ _ hk;have hl:=ho.list _ _ _ _ _ _ _ hk;refine⟨?_,by simp[SV.enc,pl]⟩;simp only[SV.enc,fvv,qD1,h1,cond_true,isNil,zP hk];rw[show (SO.list el gr g w u xs).enc.el=el from rfl,hl.2.1];simp only[qY,hn,aA,cond_true];rfl
     ·cases e
    ·rename_i k g n o m;split at e
     ·rename_i el gr g' w u xs hk
      cases h2:Nat.beq g g' with
      | false=>rw[h2] at e;cases e
      | true =>
        rw[h2] at e;cases e;have hg:g=g':=zNU h2;subst hg;simp only[SV.ok] at hx;have hn:=hx.1.2 _ _ _ _ _ hk;have hl:=ho.list _ _ _ _ _ _ _ hk;refine⟨?_,by simp[SV.enc,pl]⟩;simp only[SV.enc,fvv,qD1,h1,cond_true,isNil,zP hk];rw[show (SO.list el gr g w u xs).enc.el=el from rfl,hl.2.1];simp only[qY,hn,aA,cond_true];rfl
     ·cases e
    ·cases e
 ·cases h1:qS1 P t with
  | false=>rw[h1] at e;cases e
  | true =>
    rw[h1] at e;simp only[cond_true] at e;split at e
    ·cases e;exact⟨by simp[SV.enc,fvv,qD1,h1,qP3],by simp[SV.enc,pl]⟩
    ·cases e
 ·cases e
def q5I (P:Program)(t:TypeId)(x y:SV):Option Bool:=match x,y with
 | .d (.ol _ _) xs,.c (.slice none 0 0)=>cond (zT P t).isSome (some (List.isEmpty xs)) none
 | _,_=>none
theorem qOU (e:q5I P t x y=some b):jJ P .eql t t2 x.enc y.enc ph=some (fvv (.bool b))∧jJ P .neq t t2 x.enc y.enc ph=some (fvv (.bool !b)):=by
 unfold q5I at e;split at e
 ·rename_i el k xs
  cases h1:(zT P t).isSome with
  | false=>rw[h1] at e;cases e
  | true =>
    rw[h1] at e;cases e
    cases xs with
    | nil =>
      have hn:qD1 P t (fvv (.slice none 0 0)) (fvv (.slice none 0 0)) ph=some true:=by simp only[qD1,fvv,h1,cond_true,isNil]
      have hv:∀ H,VR P (fun _=>True) H (own (fun _=>0) ph) (fvv (.slice none 0 0)) (.slice none 0 0):=fun H=>.f (.v rfl rfl)
      constructor
      ·have:=(qE8 (op:=.eql) (o:=cop (.binOp .eql t (.const (.slice none 0 0)) (.const (.slice none 0 0)) t2)) (env:=[]) (hv H00) (hv H00) hn).1;simp only[SV.enc,Ty.fv,fvo];show jJ P .eql t t2 (fvv (.slice none 0 0)) (fvv (.slice none 0 0)) ph=_;unfold jJ;rw[show pl (fvv (.slice none 0 0))=some (.slice none 0 0) from rfl];simp only[this];rfl
      ·have:=(qE8 (op:=.neq) (o:=cop (.binOp .neq t (.const (.slice none 0 0)) (.const (.slice none 0 0)) t2)) (env:=[]) (hv H00) (hv H00) hn).2;simp only[SV.enc,Ty.fv,fvo];show jJ P .neq t t2 (fvv (.slice none 0 0)) (fvv (.slice none 0 0)) ph=_;unfold jJ;rw[show pl (fvv (.slice none 0 0))=some (.slice none 0 0) from rfl];simp only[this];rfl
    | cons x xs =>
      have hn:qD1 P t (.f (fvo el k (x::xs))) (fvv (.slice none 0 0)) ph=some false:=by
       simp only[qD1,fvv,h1,cond_true,fvo,zOK,zPX,isNil]
      constructor
      ·simp only[SV.enc,Ty.fv];show uS P t (.f (fvo el k (x::xs))) (fvv (.slice none 0 0)) ph _=_;unfold uS;rw[hn];rfl
      ·simp only[SV.enc,Ty.fv];show uS P t (.f (fvo el k (x::xs))) (fvv (.slice none 0 0)) ph _=_;unfold uS;rw[hn];rfl
 ·cases e
def q44 (P:Program)(t:TypeId)(x y:SV):Option Bool:=match x,y with
 | .d (.list _ u) xs,.c (.slice none 0 0)=>cond ((zT P t).isSome&&Nat.blt 0 u.w) (some (List.isEmpty xs)) none
 | _,_=>none
theorem tO (e:q44 P t x y=some b) :
 (b=true->jJ P .eql t t2 x.enc y.enc ph=some .bq∧jJ P .neq t t2 x.enc y.enc ph=some .bq)∧(b=false->jJ P .eql t t2 x.enc y.enc ph=some (fvv (.bool false))∧jJ P .neq t t2 x.enc y.enc ph=some (fvv (.bool true))):=by
 unfold q44 at e;split at e
 case h_2=>cases e
 rename_i el u xs
 cases h1:((zT P t).isSome&&Nat.blt 0 u.w) with
 | false=>rw[h1] at e;cases e
 | true =>
   rw[h1] at e;cases e;rw[zNT] at h1;obtain⟨h1,h2⟩:=h1;have h2:0 < u.w:=zN3 h2
   cases xs with
   | nil =>
     have hq:qR4 P t (.f (.l el 0 [])) (fvv (.slice none 0 0))=some .bq:=by simp only[qR4,fvv,h1,cond_true]
     have hn:qD1 P t (.f (.l el 0 [])) (fvv (.slice none 0 0)) ph=none:=by simp only[qD1,fvv,h1,cond_true,isNil]
     refine⟨fun _=>?_,fun h=>(by cases h)⟩;simp only[SV.enc,Ty.fv,List.flatMap_nil,zR1];constructor
     ·show uS P t (.f (.l el 0 [])) (fvv (.slice none 0 0)) ph _=_;unfold uS;rw[hn];exact hq
     ·show uS P t (.f (.l el 0 [])) (fvv (.slice none 0 0)) ph _=_;unfold uS;rw[hn];exact hq
   | cons x xs =>
     refine⟨fun h=>(by cases h),fun _=>?_⟩
     obtain⟨c,cs,hcs⟩:∃ c cs,List.flatMap u.cells (x::xs)=c::cs:=by
      cases hf:List.flatMap u.cells (x::xs) with
      | nil =>
        have:=congrArg List.length hf;rw[zX,zOI,zQN] at this;simp at this;omega
      | cons c cs=>exact⟨c,cs,rfl⟩
     have hn:qD1 P t (.f (.l el (xs.length+1) (c::cs))) (fvv (.slice none 0 0)) ph=some false:=by simp only[qD1,fvv,h1,cond_true,isNil]
     simp only[SV.enc,Ty.fv,hcs,zOI];constructor
     ·show uS P t (.f (.l el (xs.length+1) (c::cs))) (fvv (.slice none 0 0)) ph _=_;unfold uS;rw[hn]
     ·show uS P t (.f (.l el (xs.length+1) (c::cs))) (fvv (.slice none 0 0)) ph _=_;unfold uS;rw[hn];rfl
def q5T (P:Program)(op:BinOp)(t t2 ty:TypeId)(x y:SV)(h:SH)(K:SV->zED R):zED R:=match zCG P t x y h,op with
 | some b,.eql=>K (.d .bool b)
 | some b,.neq=>K (.d .bool (!b))
 | _,_=>qQ6 P op t t2 ty x y K
def q5P (P:Program)(op:BinOp)(t t2 ty:TypeId)(x y:SV)(h:SH)(K:SV->zED R):zED R:=match q44 P t x y,op with
 | some b,.eql=>.ite b (K .bq) (K (.d .bool false))
 | some b,.neq=>.ite b (K .bq) (K (.d .bool true))
 | _,_=>q5T P op t t2 ty x y h K
def zCP (P:Program)(op:BinOp)(t t2 ty:TypeId)(x y:SV)(h:SH)(K:SV->zED R):zED R:=match asI x,asI y with
 | some (k,a),some (k',b)=>cond (decide (k=k')) (sint op k a b K (qQ6 P op t t2 ty x y K)) (qQ6 P op t t2 ty x y K)
 | _,_=>(match asS x,asS y with
   | some a,some b=>zDL op a b K (qQ6 P op t t2 ty x y K)
   | _,_=>(match q5I P t x y,op with
     | some b,.eql=>K (.d .bool b)
     | some b,.neq=>K (.d .bool (!b))
     | _,_=>q5P P op t t2 ty x y h K))
theorem tQ {K:SV->zED R}(e:(qQ6 P op t t2 ty x y K).run=some r):∃ v,jJ P op t t2 x.enc y.enc (qD h.l)=some v.enc∧v.ok h∧(K v).run=some r:=by
 unfold qQ6 at e;split at e
 ·rename_i a b u ha hb hu;obtain⟨z,hz,e1⟩:=run_bind e;refine⟨_,?_,by simp[SV.ok],e1⟩;rw[q62 (gG ha) (gG hb)];exact qPM hz
 ·cases e
theorem qZ8 {K:SV->zED R}(ho:OkH P h)(hx:x.ok h)(e:(q5T P op t t2 ty x y h K).run=some r):∃ v,jJ P op t t2 x.enc y.enc (qD h.l)=some v.enc∧v.ok h∧(K v).run=some r:=by
 unfold q5T at e;split at e
 ·rename_i b hs;obtain⟨h1,h2⟩:=qTU ho hx hs;refine⟨_,?_,by simp[SV.ok],e⟩;unfold jJ;rw[h2];simp[uS,h1,SV.enc,Ty.fv,fvv]
 ·rename_i b hs;obtain⟨h1,h2⟩:=qTU ho hx hs;refine⟨_,?_,by simp[SV.ok],e⟩;unfold jJ;rw[h2];simp[uS,h1,SV.enc,Ty.fv,fvv]
 ·exact tQ e
theorem qZV {K:SV->zED R}(ho:OkH P h)(hx:x.ok h)(e:(q5P P op t t2 ty x y h K).run=some r):∃ v,jJ P op t t2 x.enc y.enc (qD h.l)=some v.enc∧v.ok h∧(K v).run=some r:=by
 unfold q5P at e;split at e
 ·rename_i b hs
  rcases run_ite e with ⟨z,e1⟩ | ⟨z,e1⟩
  ·exact⟨.bq,by rw[((tO hs).1 z).1];simp[SV.enc],by simp[SV.ok],e1⟩
  ·exact⟨.d .bool false,by rw[((tO hs).2 z).1];simp[SV.enc,Ty.fv,fvv],by simp[SV.ok],e1⟩
 ·rename_i b hs
  rcases run_ite e with ⟨z,e1⟩ | ⟨z,e1⟩
  ·exact⟨.bq,by rw[((tO hs).1 z).2];simp[SV.enc],by simp[SV.ok],e1⟩
  ·exact⟨.d .bool true,by rw[((tO hs).2 z).2];simp[SV.enc,Ty.fv,fvv],by simp[SV.ok],e1⟩
 ·exact qZ8 ho hx e
theorem q37 {K:SV->zED R}(ho:OkH P h)(hx:x.ok h)(e:(zCP P op t t2 ty x y h K).run=some r):∃ v,jJ P op t t2 x.enc y.enc (qD h.l)=some v.enc∧v.ok h∧(K v).run=some r:=by
 unfold zCP at e;split at e
 ·rename_i k a k' b ha hb
  cases hk:decide (k=k') with
  | false=>rw[hk] at e;exact tQ e
  | true =>
    rw[hk] at e;have hkk:k=k':=by simpa using hk
    subst hkk;simp only[cond_true] at e;have ha':=yI ha;have hb':=yI hb
    have fin:∀ {v:SV},jJ P op t t2 (fvv (.int k a)) (fvv (.int k b)) (qD h.l)=some v.enc->v.ok h->(K v).run=some r->∃ v,jJ P op t t2 x.enc y.enc (qD h.l)=some v.enc∧v.ok h∧(K v).run=some r:=fun h1 h2 h3=>⟨_,by rw[ha',hb'];exact h1,h2,h3⟩
    unfold sint at e;split at e
    ·exact fin (v:=.d .bool (decide (a < b))) q8D (by simp[SV.ok]) e
    ·exact fin (v:=.d .bool (decide (a<=b))) q8A (by simp[SV.ok]) e
    ·exact fin (v:=.d .bool (decide (b < a))) q95 (by simp[SV.ok]) e
    ·exact fin (v:=.d .bool (decide (b<=a))) zAY (by simp[SV.ok]) e
    ·exact fin (v:=.d .bool (a==b)) q9A (by simp[SV.ok]) e
    ·exact fin (v:=.d .bool (a != b)) zAM (by simp[SV.ok]) e
    ·exact fin (v:=.d (.int k) (k.wrap (a+b))) q9B (by simp[SV.ok]) e
    ·exact fin (v:=.d (.int k) (k.wrap (a - b))) zAL (by simp[SV.ok]) e
    ·exact fin (v:=.d (.int k) (k.wrap (a*b))) q8H (by simp[SV.ok]) e
    ·obtain⟨c,hc,e1⟩:=run_bind e;exact fin (v:=.d (.int k) c) (q8V hc) (by simp[SV.ok]) e1
    ·obtain⟨c,hc,e1⟩:=run_bind e;exact fin (v:=.d (.int k) c) (q8N hc) (by simp[SV.ok]) e1
    ·exact tQ e
 ·split at e
  ·rename_i a b ha hb;have ha':=fT ha;have hb':=fT hb;unfold zDL at e;split at e
   ·rcases run_ite e with ⟨z,e1⟩ | ⟨z,e1⟩
    ·exact⟨.d .str (a++b),by rw[ha',hb',q5Y (zN3 z)];simp[SV.enc,Ty.fv,fvv],by simp[SV.ok],e1⟩
    ·cases e1
   ·exact⟨.d .bool (a.toList==b.toList),by rw[ha',hb',q4L];simp[SV.enc,Ty.fv,fvv],by simp[SV.ok],e⟩
   ·exact⟨.d .bool (!(a.toList==b.toList)),by rw[ha',hb',q38];simp[SV.enc,Ty.fv,fvv],by simp[SV.ok],e⟩
   ·exact tQ e
  split at e
  ·rename_i b hs;exact⟨_,by rw[(qOU hs).1];simp[SV.enc,Ty.fv,fvv],by simp[SV.ok],e⟩
  ·rename_i b hs;exact⟨_,by rw[(qOU hs).2];simp[SV.enc,Ty.fv,fvv],by simp[SV.ok],e⟩
  exact qZV ho hx e
def qUQ (P:Program)(mk:Operand->Op)(ty:TypeId)(x:SV)(K:SV->zED R):zED R:=match qEE x,qDM P 8 ty with
 | some a,some u=>.bind (u.zF8 (aK P mk (fvv a))) fun z=>K (.d u z)
 | _,_=>.fail
theorem qPP {mk:Operand->Op}{K:SV->zED R}(e:(qUQ P mk ty x K).run=some r):∃ v,aK P mk x.enc=some v.enc∧v.ok h∧(K v).run=some r∧∃ a,qEE x=some a:=by
 unfold qUQ at e;split at e
 ·rename_i a u ha hu;obtain⟨z,hz,e1⟩:=run_bind e;exact⟨_,by rw[pJ ha];exact qPM hz,by simp[SV.ok],e1,a,ha⟩
 ·cases e
def sun (P:Program)(op:UnOp)(t ty:TypeId)(x:SV)(K:SV->zED R):zED R:=match op,asI x,asB x with
 | .neg,some (k,a),_=>K (.d (.int k) (k.wrap (0 - a)))
 | .not,_,some b=>K (.d .bool (!b))
 | _,_,_=>qUQ P (fun a=>.unOp op t a) ty x K
omit [Yl] in
theorem q4T {x:Int}:aK P (fun a=>.unOp .neg t a) (fvv (.int k x))=some (fvv (.int k (k.wrap (0 - x)))):=rfl
theorem q8B {op:UnOp}{K:SV->zED R}(e:(sun P op t ty x K).run=some r):∃ v,aK P (fun a=>.unOp op t a) x.enc=some v.enc∧v.ok h∧(K v).run=some r:=by
 unfold sun at e;split at e
 ·rename_i k a ha;exact⟨_,by rw[yI ha,q4T];simp[SV.enc,Ty.fv,fvv],by simp[SV.ok],e⟩
 ·rename_i b hb;exact⟨_,by rw[pY hb,q90];simp[SV.enc,Ty.fv,fvv],by simp[SV.ok],e⟩
 ·obtain⟨v,h1,h2,h3,_⟩:=qPP (h:=h) e;exact⟨v,h1,h2,h3⟩
def dO (env:List SV)(l:Array Operand):List SV:=l.toList.map (kF env)
theorem gI (env:List SV)(l:Array Operand):l.toList.map (qK (qC env))=qC (dO env l):=by
 unfold dO;rw[zH (l.toList.map (kF env)),zP2];exact zPD fun x _=>qR env x
omit [Yl] in
theorem fA (ho:okL h env)(l:Array Operand):okL h (dO env l):=zM.2 fun x hx=>by
 obtain⟨q,_,rfl⟩:=zOJ.1 hx;exact mK ho _
def smm (lo:Bool)(x y:SV)(K:SV->zED R):zED R:=match asI x,asI y with
 | some (k,a),some (k',b)=>cond (decide (k=k')) (K (.d (.int k) (cond lo (cond (decide (b < a)) b a) (cond (decide (a < b)) b a)))) .fail
 | _,_=>.fail
omit [Yl] in
theorem dmin {x y:Operand}{b:Int}{env:Env}(hx:env.val x=.int k a)(hy:env.val y=.int k b) :
 qRI (kL P (cop (.call ⟨.builtin .min,#[x,y],ts⟩) ty) env H00)=some (fvv (.int k (if b < a then b else a))):=by
 have h2:kR env.val (cop (.call ⟨.builtin .min,#[x,y],ts⟩) ty).op.operands.toList=[env.val x,env.val y]:=rfl;unfold kL;rw[h2];simp only[cop,execOp,resolve,List.map_toArray,zOC,zP3,hx,hy];rfl
omit [Yl] in
theorem dmax {x y:Operand}{b:Int}{env:Env}(hx:env.val x=.int k a)(hy:env.val y=.int k b) :
 qRI (kL P (cop (.call ⟨.builtin .max,#[x,y],ts⟩) ty) env H00)=some (fvv (.int k (if a < b then b else a))):=by
 have h2:kR env.val (cop (.call ⟨.builtin .max,#[x,y],ts⟩) ty).op.operands.toList=[env.val x,env.val y]:=rfl;unfold kL;rw[h2];simp only[cop,execOp,resolve,List.map_toArray,zOC,zP3,hx,hy];rfl
omit [Yl] in
theorem qUO {p:Prop}[Decidable p]{α:Type}{x y:α}:cond (decide p) x y=if p then x else y:=by
 by_cases h:p <;> simp[h]
theorem q3B {lo:Bool}{c:Call}{K:SV->zED R}(hl:dO env c.args=[x,y])(hc:c.callee=.builtin (cond lo .min .max))(e:(smm lo x y K).run=some r) :
 ∃ v,vU P (cond lo .min .max) c [x.enc,y.enc] (qC env) ty (qD h.l)=some (v.enc,qD h.l)∧v.ok h∧(K v).run=some r:=by
 unfold smm at e;split at e
 ·rename_i k a k' b ha hb
  cases hk:decide (k=k') with
  | false=>rw[hk] at e;cases e
  | true =>
    rw[hk] at e;have:k=k':=by simpa using hk
    subst this;have e1:=yI ha;have e2:=yI hb;refine⟨_,?_,by simp[SV.ok],e⟩;obtain⟨cal,args,ts⟩:=c;simp only at hc hl;subst hc;unfold dO at hl
    have hal:∃ p q,args=#[p,q]∧kF env p=x∧kF env q=y:=by
     obtain⟨l⟩:=args
     match l,hl with
     | [p,q],hl=>simp at hl;exact⟨p,q,rfl,hl.1,hl.2⟩
    obtain⟨p,q,rfl,hp,hq⟩:=hal;have vp:(qR8 (qC env)).val p=.int k a:=dN P (by rw[qR,hp,e1];rfl);have vq:(qR8 (qC env)).val q=.int k b:=dN P (by rw[qR,hq,e2];rfl);unfold vU;rw[e1,e2];have hpl:plL [fvv (.int k a),fvv (.int k b)]=some [.int k a,.int k b]:=rfl;rw[hpl]
    cases lo with
    | true =>
      simp only[cond_true];rw[dmin vp vq,qUO];simp[pp1,SV.enc,Ty.fv,fvv]
    | false =>
      simp only[cond_false];rw[dmax vp vq,qUO];simp[pp1,SV.enc,Ty.fv,fvv]
 ·cases e
def q6M (P:Program)(ts:Array TypeId)(x:SV)(h:SH):Option SV:=match rW P x.enc (qD h.l) with
 | some _=>none
 | none=>zCT P ts x h
theorem q0S {v:SV}(ho:OkH P h)(hx:x.ok h)(e:q6M P ts x h=some v):qC9 P ts x.enc (qD h.l)=some v.enc∧v.ok h:=by
 unfold q6M at e;split at e
 ·cases e
 ·rename_i hn;unfold qC9;rw[hn];exact q5B ho hx e
theorem qRQ {lo hi:Option Operand}{K:SV->zED R}(e:(qWS P t s (lo.map (kF env)) (hi.map (kF env)) K).run=some r) :
 ∃ v,qLZ P (.slice t (.const (.string s)) (lo.map fun a=>.const ((pl (qK (qC env) a)).getD undef)) (hi.map fun a=>.const ((pl (qK (qC env) a)).getD undef)) none)=some v.enc∧v.ok h∧(K v).run=some r∧(plL ((lo.toList++hi.toList).map (qK (qC env)))).isSome=true:=by
 obtain⟨c,e1⟩:=qG e;obtain⟨b,hb,_,e2⟩:=vN e1;obtain⟨a,ha,_,e3⟩:=vN e2;have m:∀ o:Option Operand,(o.map (kF env)).map SV.enc=o.map (qK (qC env)):=fun o=>by cases o <;> simp[qR]
 rw[m] at hb ha;refine⟨.d .str (s.extract a b),by rw[q0T (qDQ c) hb ha];simp[SV.enc,Ty.fv,fvv],by simp[SV.ok],e3,?_⟩
 have one:∀ {o:Option Operand} {d most n:Nat},bnd d most (o.map (qK (qC env)))=some n->o=none∨∃ a k i,o=some a∧qK (qC env) a=fvv (.int k i):=fun {o d most n} h=>by
  rcases qS9 h with ⟨q,_⟩ | ⟨k,i,q,_⟩
  ·cases o with
   | none=>exact .inl rfl
   | some a=>cases q
  ·cases o with
   | none=>cases q
   | some a=>exact .inr ⟨a,k,i,rfl,by simpa using q⟩
 rcases one hb with rfl | ⟨x,k,i,rfl,hx⟩ <;> rcases one ha with rfl | ⟨y,k',i',rfl,hy⟩ <;> simp_all [plL,fvv,pl]
theorem qSS {ix:SV}{K:SV->zED R}(e:(qMJ P t s ix K).run=some r) :
 ∃ v k i,ix.enc=fvv (.int k i)∧qLZ P (.index t (.const (.string s)) (.const (.int k i)))=some v.enc∧v.ok h∧(K v).run=some r:=by
 unfold qMJ at e;split at e
 ·rename_i k i hi;obtain⟨c,e1⟩:=qG e;obtain⟨b,hb,e2⟩:=run_bind e1;exact⟨.d (.int .u8) b,k,i,yI hi,by rw[q2H (qDQ c) hb];simp[SV.enc,Ty.fv,fvv],by simp[SV.ok],e2⟩
 ·cases e
theorem q1A {s d:TypeId}{K:SV->zED R}{F:zED R}(e:(q1T P s d x K F).run=some r):(∃ v,aK P (fun a=>.convert s d a) x.enc=some v.enc∧v.ok h∧(K v).run=some r)∨F.run=some r:=by
 unfold q1T at e;split at e
 ·rename_i u k' hs hd;split at e
  ·rename_i k a ha;exact .inl ⟨_,by rw[yI ha,q6V hs hd];simp[SV.enc,Ty.fv,fvv],by simp[SV.ok],e⟩
  ·exact .inr e
 ·rename_i u hs hd;split at e
  ·rename_i a ha;exact .inl ⟨_,by rw[fT ha,q05 hs hd];simp[SV.enc,Ty.fv,fvv],by simp[SV.ok],e⟩
  ·exact .inr e
 ·exact .inr e
def qHT (env:List SV)(parts:Array (Nat×Operand)):List (Nat×SV):=parts.toList.map fun p=>(p.1,kF env p.2)
theorem qEM (env:List SV)(parts:Array (Nat×Operand)):(parts.toList.map fun p=>(p.1,qK (qC env) p.2))=q7Y (qHT env parts):=by
 simp[qHT,q7Y,qR]
omit [Yl] in
theorem qJV {env:List SV}(ho:okL h env)(parts:Array (Nat×Operand)):∀ p∈qHT env parts,p.2.ok h:=fun p hp=>by
 obtain⟨q,_,rfl⟩:=zOJ.1 hp;exact mK ho _
def qXJ:Operand->Operand->Bool
 | .tmp i,.tmp j=>Nat.beq i j
 | .const (.int k a),.const (.int k' b)=>decide (k=k')&&decide (a=b)
 | _,_=>false
omit [Yl] in
theorem qWP {a b:Operand}(e:qXJ a b=true):a=b:=by
 unfold qXJ at e;split at e
 ·rw[zNU e]
 ·rw[zNT] at e;have h1:=of_decide_eq_true e.1;have h2:=of_decide_eq_true e.2;rw[h1,h2]
 ·cases e
def gv (o:Option SV)(h:SH)(K:SV->SH->zED R):zED R:=match o with
 | some v=>K v h
 | none=>.fail
def sop (P:Program)(o:Oper)(env:List SV)(k:Nat)(h:SH)(K:SV->SH->zED R):zED R:=match o.op with
 | .move x=>K (kF env x) h
 | .assign x=>K (kF env x) h
 | .pick c a b=>(match asB (kF env c) with
   | some t=>.ite t (K (kF env a) h) (K (kF env b) h)
   | none=>.fail)
 | .alloc el=>qUN P el k h K
 | .box el x=>zDO P el (kF env x) k h K
 | .build t parts=>gv (qTZ P t (qHT env parts)) h K
 | .buildSlice t len parts=>mU P t len (qHT env parts) k h K
 | .load t a=>q4U P t (kF env a) h fun v=>K v h
 | .store t a x=>qWL P t (kF env a) (kF env x) h K
 | .nilCheck x=>gv (qCC (kF env x) h) h K
 | .binOp op t x y t2=>zCP P op t t2 o.type (kF env x) (kF env y) h fun v=>K v h
 | .unOp op t x=>sun P op t o.type (kF env x) fun v=>K v h
 | .convert s d x=>cond (qRU (kF env x).enc) .fail (q1T P s d (kF env x) (fun v=>K v h) (qUQ P (fun a=>.convert s d a) o.type (kF env x) fun v=>K v h))
 | .makeFunc fn first cap=>gv (qA3 fn (dO env first) (dO env cap)) h K
 | .makeSlice t l c=>cond (qXJ l c) (q6Q P t (kF env l) k h K) .fail
 | .slice t x lo hi none=>(match asS (kF env x) with
   | some s=>qWS P t s (lo.map (kF env)) (hi.map (kF env)) fun v=>K v h
   | none=>qWI P t (kF env x) (lo.map (kF env)) (hi.map (kF env)) h fun v=>K v h)
 | .fieldAddr t x i=>gv (p9 P t (kF env x) i h) h K
 | .indexAddr t x ix=>rF P t (kF env x) (kF env ix) h fun v=>K v h
 | .index t x ix=>(match asS (kF env x) with
   | some s=>qMJ P t s (kF env ix) fun v=>K v h
   | none=>qXR P t (kF env x) (kF env ix) fun v=>K v h)
 | .extract t i=>gv (qGS (kF env t) i) h K
 | .makeMap _ none=>qQB P k h K
 | .lookup t m kx ok=>qMT P t (kF env m) (kF env kx) ok h fun v=>K v h
 | .mapUpdate t m kx x=>rJ P t (kF env m) (kF env kx) (kF env x) h K
 | .call c=>(match c.callee,dO env c.args with
   | .builtin .append,[x,y]=>q7A P c.argTypes.toList x y k h K
   | .builtin .copy,[x,y]=>q36 P c.argTypes.toList x y h K
   | .builtin .len,[x]=>cond (qYN P c.argTypes) (match asS x with
     | some s=>K (.d (.int .i64) (s.size:Int)) h
     | none=>.fail) (match q7F P c.argTypes x h with
     | some v=>K v h
     | none=>gv (q6M P c.argTypes x h) h K)
   | .builtin .min,[x,y]=>smm true x y fun v=>K v h
   | .builtin .max,[x,y]=>smm false x y fun v=>K v h
   | _,_=>.fail)
 | _=>.fail
omit [Yl] in
theorem qRD {o:Option SV}{K:SV->SH->zED R}(e:(gv o h K).run=some r):∃ v,o=some v∧(K v h).run=some r:=by
 unfold gv at e;split at e
 ·exact⟨_,rfl,e⟩
 ·cases e
theorem q2X {k:Nat}{K:SV->SH->zED R}(ho:OkH P h)(he:okL h env)(e:(sop P o env k h K).run=some r) :
 ∃ v h',sP P o (qC env) k (qD h.l)=some (v.enc,qD h'.l)∧Post P h h' v∧(K v h').run=some r:=by
 have same:∀ {v:SV},v.ok h->Post P h h v:=fun hv=>⟨.refl _,ho,hv⟩
 have sv:=fun x=>mK (h:=h) he x
 unfold sop at e;unfold sP;split at e
 ·rename_i x ho';exact⟨_,_,by simp only[ho',qR],same (sv x),e⟩
 ·rename_i x ho';exact⟨_,_,by simp only[ho',qR],same (sv x),e⟩
 ·rename_i c a b ho';split at e
  ·rename_i t ht;have h1:=pY ht
   rcases run_ite e with ⟨z,e1⟩ | ⟨z,e1⟩
   ·exact⟨_,_,by simp only[ho',qR,h1,fvv,z,cond_true],same (sv a),e1⟩
   ·exact⟨_,_,by simp only[ho',qR,h1,fvv,z,cond_false],same (sv b),e1⟩
  ·cases e
 ·rename_i el ho';rw[ho'];exact qUJ ho e
 ·rename_i el x ho';rw[ho'];simp only[qR];exact q43 ho (sv x) e
 ·rename_i t parts ho';rw[ho'];obtain⟨v,h1,h2⟩:=qRD e;have h3:=qVW (qJV he parts) h1;exact⟨v,h,by simp only[qEM,h3.1,pp1],same h3.2,h2⟩
 ·rename_i t len parts ho';rw[ho'];simp only[qEM];exact qCY ho (qJV he parts) e
 ·rename_i t a ho';rw[ho'];obtain⟨v,h1,h2,h3⟩:=q15 ho (sv a) e;exact⟨v,h,by simp only[qR,h1,pp1],same h2,h3⟩
 ·rename_i t a x ho';rw[ho'];obtain⟨h',h1,h2,h3,h4⟩:=qTE ho (sv a) (sv x) e;exact⟨_,h',by simp only[qR,h1,ppS];simp[SV.enc,qC],⟨h2,h3,by simp[SV.ok,okL]⟩,h4⟩
 ·rename_i x ho';rw[ho'];obtain⟨v,h1,h2⟩:=qRD e;have h3:=qIC (sv x) h1;exact⟨v,h,by simp only[qR,h3.1,pp1],same h3.2,h2⟩
 ·rename_i op t x y t2 ho';rw[ho'];obtain⟨v,h1,h2,h3⟩:=q37 ho (sv x) e;exact⟨v,h,by simp only[qR,h1,pp1],same h2,h3⟩
 ·rename_i op t x ho';rw[ho'];obtain⟨v,h1,h2,h3⟩:=q8B (h:=h) e;exact⟨v,h,by simp only[qR,h1,pp1],same h2,h3⟩
 ·rename_i s d x ho';rw[ho']
  cases hp:qRU (kF env x).enc with
  | true=>rw[hp] at e;cases e
  | false =>
    rw[hp] at e;have e1:(q1T P s d (kF env x) (fun v=>K v h) (qUQ P (fun a=>.convert s d a) o.type (kF env x) fun v=>K v h)).run=some r:=e;rcases q1A (h:=h) e1 with ⟨v,h1,h2,h3⟩ | e1
    ·exact⟨v,h,by simp only[qR,hp,cond_false,h1,pp1],same h2,h3⟩
    ·obtain⟨v,h1,h2,h3,_⟩:=qPP (h:=h) e1;exact⟨v,h,by simp only[qR,hp,cond_false,h1,pp1],same h2,h3⟩
 ·rename_i fn first cap ho'
  rw[ho'];obtain⟨v,h1,h2⟩:=qRD e;have h3:=qJX (fA he first) (fA he cap) h1;exact⟨v,h,by simp only[gI,h3.1,pp1],same h3.2,h2⟩
 ·rename_i t l c ho';rw[ho'];obtain⟨h1,h2⟩:=qG e;have:=qWP h1;subst this;simp only[qR];exact q04 ho h2
 ·rename_i t x lo hi ho';rw[ho'];split at e
  ·rename_i s hs;obtain⟨v,h1,h2,h3,h4⟩:=qRQ (h:=h) e;obtain⟨vs,hvs⟩:=zOV.1 h4;refine⟨v,h,?_,same h2,h3⟩;have hx:qK (qC env) x=.f (.v (.string s)):=by rw[qR];exact fT hs
   simp only[hx,hvs,h1,pp1]
  obtain⟨v,h1,h2,h3⟩:=qXV ho (sv x) e;refine⟨v,h,?_,same h2,h3⟩;have m:∀ o:Option Operand,o.map (qK (qC env))=(o.map (kF env)).map SV.enc:=fun o=>by cases o <;> simp[qR]
  simp only[qR,m]
  have ns:∀ s,(kF env x).enc≠.f (.v (.string s)):=fun s hs=>by
   rw[hs] at h1;simp only[wT] at h1;cases h1
  split
  ·rename_i s hs;exact absurd hs (ns s)
  ·rw[h1];rfl
 ·rename_i t x i ho';rw[ho'];obtain⟨v,h1,h2⟩:=qRD e;have h3:=qFU (sv x) h1;exact⟨v,h,by simp only[qR,h3.1,pp1],same h3.2,h2⟩
 ·rename_i t x ix ho';rw[ho'];obtain⟨v,h1,h2,h3⟩:=qF3 ho (sv x) e;exact⟨v,h,by simp only[qR,h1,pp1],same h2,h3⟩
 ·rename_i t x ix ho';rw[ho'];split at e
  ·rename_i s hs;obtain⟨v,k',i,h0,h1,h2,h3⟩:=qSS (h:=h) e;refine⟨v,h,?_,same h2,h3⟩;have hx:=fT hs;have hpl:pl (fvv (.int k' i))=some (.int k' i):=rfl;simp only[qR,hx,h0,hpl];simp only[fvv,h1,pp1]
  obtain⟨v,h1,h2,h3,l,hl⟩:=qT8 (sv x) e;refine⟨v,h,?_,same h2,h3⟩;simp only[qR];rw[hl] at h1 ⊢;simp only[SV.enc] at h1 ⊢;rw[h1];rfl
 ·rename_i t i ho';rw[ho'];obtain⟨v,h1,h2⟩:=qRD e;have h3:=qM8 (sv t) h1;exact⟨v,h,by simp only[qR,h3.1,pp1],same h3.2,h2⟩
 ·rename_i ho';rw[ho'];exact qLL ho e
 ·rename_i t m kx ok ho';rw[ho'];obtain⟨v,h1,h2,h3⟩:=qRO e;exact⟨v,h,by simp only[qR,h1,pp1],same h2,h3⟩
 ·rename_i t m kx x ho';rw[ho'];obtain⟨h',h1,h2,h3,h4⟩:=qGW ho e;exact⟨_,h',by simp only[qR,h1,ppS];simp[SV.enc,qC],⟨h2,h3,by simp[SV.ok,okL]⟩,h4⟩
 ·rename_i c ho';rw[ho'];have ha:=gI env c.args;have hao:=fA he c.args;split at e
  ·rename_i x y hc hl;rw[hl] at ha hao;simp only[okL] at hao;simp only[hc,ha,qC,wY];exact q1K ho hao.1 hao.2.1 e
  ·rename_i x y hc hl;rw[hl] at ha hao;simp only[okL] at hao;simp only[hc,ha,qC,wY];exact q0J ho hao.1 hao.2.1 e
  ·rename_i x hc hl;rw[hl] at ha hao;simp only[okL] at hao
   cases hst:qYN P c.argTypes with
   | true =>
     rw[hst] at e;simp only[cond_true] at e;split at e
     ·rename_i s hs;refine⟨_,h,?_,same (by simp[SV.ok]),e⟩;obtain⟨cal,args,ts⟩:=c;simp only at hc hl hst;subst hc
      obtain⟨p,rfl,hp⟩:∃ p,args=#[p]∧kF env p=x:=by
       unfold dO at hl;obtain⟨l⟩:=args
       match l,hl with
       | [p],hl=>simp at hl;exact⟨p,rfl,hl⟩
      have vp:(qR8 (qC env)).val p=.string s:=dN P (by rw[qR,hp,fT hs];rfl);simp only[wY,ha,qC,hst,cond_true];unfold vU;have hpl:plL [x.enc]=some [.string s]:=by rw[fT hs];rfl
      rw[hpl];simp only;rw[qQU hst vp];simp[pp1,SV.enc,Ty.fv,fvv]
     ·cases e
   | false =>
     rw[hst] at e;simp only[cond_false] at e;split at e
     ·rename_i v hv;have h3:=qY7 hv;refine⟨v,h,?_,same h3.2,e⟩;simp only[hc,ha,qC,wY,hst,cond_false,h3.1,pp1]
     obtain⟨v,h1,h2⟩:=qRD e;have h3:=q0S ho hao.1 h1;refine⟨v,h,?_,same h3.2,h2⟩;simp only[hc,ha,qC,wY,hst,cond_false,h3.1,pp1]
  ·rename_i x y hc hl;rw[hl] at ha;obtain⟨v,h1,h2,h3⟩:=q3B (h:=h) (lo:=true) (ty:=o.type) hl hc e;exact⟨v,h,by simp only[hc,ha,qC,wY];exact h1,same h2,h3⟩
  ·rename_i x y hc hl;rw[hl] at ha;obtain⟨v,h1,h2,h3⟩:=q3B (h:=h) (lo:=false) (ty:=o.type) hl hc e;exact⟨v,h,by simp only[hc,ha,qC,wY];exact h1,same h2,h3⟩
  ·cases e
 ·cases e
def zDB (P:Program)(o:Oper)(env:List SV)(k:Nat)(h:SH)(K:SV->SH->zED R):zED R:=sop P o env k h K
theorem q4O {k:Nat}{K:SV->SH->zED R}(ho:OkH P h)(he:okL h env)(e:(zDB P o env k h K).run=some r) :
 ∃ v h',zAH P o (qC env) k (qD h.l)=some (v.enc,qD h'.l)∧Post P h h' v∧(K v h').run=some r:=by
 obtain⟨v,h',h1,h2,h3⟩:=q2X ho he e;exact⟨v,h',qUH h1,h2,h3⟩
end
end Go.Sv
namespace Go.Sv
open Go.Idl
variable {as env:List SV}{d k m n o w:Nat}{el ty:TypeId}{g:FuncId}{h':SH}{nm:Nm}{v:SV}
noncomputable section
variable [Gc]
variable [Yl]
variable {P:Program}{h:SH}{R:Type}{r:R}{tab:uN}
omit [Yl] in
theorem tF:∀ (cs:List FV) (ph:PHp) (n:Nat),sN (fz1 P n) (cs.map .f) ph=some (cs,ph)
 | [],ph,n=>rfl
 | c::cs,ph,n=>by
   have e:fz1 P n ph (.f c)=some (c,ph):=by cases n <;> rfl
   show (match fz1 P n ph (.f c) with
    | some (y,ph1)=>(match sN (fz1 P n) (cs.map .f) ph1 with
      | some (ys,ph2)=>some (y::ys,ph2)
      | none=>none)
    | none=>none)=_
   rw[e];simp only[tF cs ph n]
theorem q1S {gr:Bool}{g:Nat}{t:Ty}{xs:List t.sem}(ho:OkH P h)(hk:slk k h.l=some (.list el gr g w t xs))(hn:n=xs.length)(hom:o+m<=n) :
 fz1 P (d+1) (qD h.l) (.own k n o m)=some (.l el m (((xs.drop o).take m).flatMap t.cells),qD (h.del k).l):=by
 have hl:=ho.list _ _ _ _ _ _ _ hk;simp only[fz1,zP hk];rw[show (SO.list el gr g w t xs).enc.el=el from rfl,hl.2.1];simp only[qY,hn,aA,cond_true];rw[show (SO.list el gr g w t xs).enc.cs=(xs.flatMap t.cells).map .f from rfl,<-zP6,<-zPZ,gK,u6,tF];show some _=some (_,qD (sdl k h.l));rw[gP]
def q0Q (el:TypeId)(t:Ty)(k g:Nat)(f:List t.sem->List t.sem)(h:SH):Option (List t.sem×SH):=match slk k h.l with
 | some (.list el' _ g' _ u xs)=>cond (Nat.beq el' el&&Nat.beq g g') (match qDE u t xs with
   | some xs=>some (f xs,h.del k)
   | none=>none) none
 | _=>none
def q1X (el:TypeId)(t:Ty):List SV->SH->Option (List (List t.sem)×SH)
 | [],h=>some ([],h)
 | .own k g _::l,h=>(match q0Q el t k g (fun xs=>xs) h with
   | some (x,h1)=>(match q1X el t l h1 with
     | some (xs,h2)=>some (x::xs,h2)
     | none=>none)
   | none=>none)
 | _,_=>none
def qT4 (P:Program)(el e2:TypeId)(t2:Ty)(k n:Nat)(h:SH):Option (List (List t2.sem)×SH):=match slk k h.l with
 | some (.cells el' _ cs)=>cond (Nat.beq el' el&&Nat.beq n cs.length) (match szT P el with
   | some 1=>q1X e2 t2 cs (h.del k)
   | _=>none) none
 | _=>none
def q9Q (P:Program)(el:TypeId):(t:Ty)->(k n:Nat)->SH->Option (List t.sem×SH)
 | .list e2 t2,k,n,h=>qT4 P el e2 t2 k n h
 | _,_,_,_=>none
def q8K (P:Program)(el:TypeId)(t:Ty)(k g n:Nat)(h:SH):Option (List t.sem×SH):=match q0Q el t k g (fun xs=>xs) h with
 | some r=>some r
 | none=>q9Q P el t k n h
def zDM (P:Program)(ty el:TypeId)(t:Ty)(h:SH):Option (List t.sem×SH):=match zT P ty with
 | some el'=>cond (Nat.beq el' el) (some ([],h)) none
 | none=>none
def q8E (P:Program)(ty el el':TypeId)(k':IntKind)(xs:List Int):(t:Ty)->Option (List t.sem)
 | .int k=>cond (Nat.beq el' el&&decide (k'=k)) (match zT P ty with
   | some e=>cond (Nat.beq e el) (some xs) none
   | none=>none) none
 | _=>none
def qTF (t:Ty)(v:SV)(h:SH):Option (t.sem×SH):=match t.zIS v with
 | some x=>some (x,h)
 | none=>none
def q64 (P:Program)(el el':TypeId)(k w:Nat)(ik:IntKind)(h:SH):Option (List Int×SH):=match slk k h.l with
 | some (.spc w' (.arr el0 ik' xs))=>cond (Nat.beq el el'&&(Nat.beq w' w&&(decide (ik'=ik)&&!spec P el0))) (some (xs,h.del k)) none
 | _=>none
def q8G (P:Program)(el el':TypeId)(k w:Nat):(t:Ty)->SH->Option (List t.sem×SH)
 | .int ik,h=>q64 P el el' k w ik h
 | _,_=>none
omit [Yl] in
theorem q1F {k:IntKind}:∀ (xs:List Int),List.flatMap (Ty.int k).cells xs=xs.map fun x=>FV.v (.int k x)
 | []=>rfl
 | x::xs=>by rw[zOK,q1F xs];rfl
theorem q1N {el':TypeId}:∀ {t:Ty} {h h':SH} {x:List t.sem},OkH P h->(SV.asl el' k w n).ok h->q8G P el el' k w t h=some (x,h') ->
 fz1 P 4 (qD h.l) (.asl el' k n)=some ((Ty.list el t).fv x,qD h'.l)∧Keep h h'∧OkH P h'
 | .int ik,h,h',x,ho,hv,e=>by
   have e:q64 P el el' k w ik h=some (x,h'):=e;unfold q64 at e;split at e
   ·rename_i w' el0 ik' xs hk
    cases hc:(Nat.beq el el'&&(Nat.beq w' w&&(decide (ik'=ik)&&!spec P el0))) with
    | false=>rw[hc] at e;cases e
    | true =>
      rw[hc] at e;cases e;simp only[zNT,zOE,decide_eq_true_eq] at hc;obtain⟨h1,h2,h3,h4⟩:=hc;have h1:=zNU h1;have h2:=zNU h2;subst h1 h2 h3;simp only[SV.ok] at hv;obtain⟨el1,ik1,xs1,q1,q2⟩:=hv.2 _ hk rfl;cases q1;have hd:=gZ (k:=k) ho;refine⟨?_,hd.1,hd.2⟩;simp only[fz1,zP hk]
      show (cond (Nat.beq n (x.map fun y=>fvv (.int ik' y)).length&&(!spec P el0&&!false)) (match sN (fz1 P 3) (x.map fun y=>fvv (.int ik' y)) (nC k (qD h.l)) with
       | some (cs,ph')=>some (FV.l el n cs,ph')
       | none=>none) none)=_
      rw[show (x.map fun y=>fvv (.int ik' y))=(x.map fun y=>FV.v (.int ik' y)).map .f by rw[zP2];rfl,tF,zN5,zN5,h4,q2];simp only[aA,Bool.not_false,zOS,cond_true];rw[show nC k (qD h.l)=qD (h.del k).l from (gP k _).symm];show some (FV.l el x.length _,_)=some (FV.l el x.length (List.flatMap (Ty.int ik').cells x),_);rw[q1F]
   ·cases e
 | .bool,_,_,_,_,_,e=>by cases e
 | .str,_,_,_,_,_,e=>by cases e
 | .raw,_,_,_,_,_,e=>by cases e
 | .nif,_,_,_,_,_,e=>by cases e
 | .unit,_,_,_,_,_,e=>by cases e
 | .ol _ _,_,_,_,_,_,e=>by cases e
 | .list _ _,_,_,_,_,_,e=>by cases e
 | .pair _ _,_,_,_,_,_,e=>by cases e
def q2J (P:Program)(ty:TypeId):(t:Ty)->SV->SH->Option (t.sem×SH)
 | .list el t,.own k g n,h=>q8K P el t k g n h
 | .list el t,.sl k g _ o m,h=>q0Q el t k g (fun xs=>(xs.drop o).take m) h
 | .list el t,.asl el' k w _,h=>q8G P el el' k w t h
 | .list el t,.c (.slice none 0 0),h=>zDM P ty el t h
 | .list el t,.d (.ol el' k') xs,h=>(match q8E P ty el el' k' xs t with
   | some x=>some (x,h)
   | none=>none)
 | t,v,h=>cond t.nol (qTF t v h) none
omit [Yl] in
theorem nI:∀ {t:Ty} {x:t.sem},(t.one&&t.nol)=true->rt0 P ty (.f (t.fv x))=.f (t.fv x)
 | .int _,_,_=>rfl
 | .bool,_,_=>rfl
 | .str,_,_=>rfl
 | .raw,_,_=>rfl
 | .nif,_,_=>rfl
 | .ol _ _,_,e=>by cases e
 | .list _ _,_,_=>rfl
 | .unit,_,e=>by cases e
 | .pair _ _,_,e=>by cases e
theorem qOO {t:Ty}{g:Nat}{f:List t.sem->List t.sem}{x:List t.sem}(ho:OkH P h)(hs:qVT h k g n)(hom:o+m<=n)(hf:∀ xs:List t.sem,xs.length=n->f xs=(xs.drop o).take m)(e:q0Q el t k g f h=some (x,h')) :
 fz1 P (d+1) (qD h.l) (.own k n o m)=some ((Ty.list el t).fv x,qD h'.l)∧Keep h h'∧OkH P h':=by
 unfold q0Q at e;split at e
 ·rename_i el' gr g' w u xs hk
  cases hc:(Nat.beq el' el&&Nat.beq g g') with
  | false=>rw[hc] at e;cases e
  | true =>
    rw[hc] at e;rw[zNT] at hc;have he:el'=el:=zNU hc.1;have hg:g=g':=zNU hc.2;subst he hg;simp only[cond_true] at e;split at e
    ·rename_i ys hys;cases uF hys;cases e;have hn:=hs.2 _ _ _ _ _ hk;have hd:=gZ (k:=k) ho;refine⟨?_,hd.1,hd.2⟩;rw[q1S ho hk hn hom,hf _ hn.symm];show some (FV.l el' m _,_)=some (FV.l el' _ _,_);rw[zO4,zQK,zPK (by omega)]
    ·cases e
 ·cases e
theorem qFM {ty:TypeId}{t:Ty}{g:Nat}{f:List t.sem->List t.sem}{x:List t.sem}(ho:OkH P h)(hs:qVT h k g n)(hom:o+m<=n)(hf:∀ xs:List t.sem,xs.length=n->f xs=(xs.drop o).take m)(e:q0Q el t k g f h=some (x,h')) :
 fz1 P 4 (qD h.l) (.own k n o m)=some ((Ty.list el t).fv x,qD h'.l)∧Keep h h'∧OkH P h' :=
 qOO (d:=3) ho hs hom hf e
theorem qQG {el:TypeId}{t:Ty}:∀ {l:List SV} {h h':SH} {x:List (List t.sem)},OkH P h->okL h l->q1X el t l h=some (x,h') ->
 sN (fz1 P 3) (qC l) (qD h.l)=some (x.map (Ty.list el t).fv,qD h'.l)∧Keep h h'∧OkH P h'∧x.length=l.length
 | [],h,h',x,ho,hl,e=>by
   cases e;exact⟨rfl,.refl _,ho,rfl⟩
 | v::l,h,h',x,ho,hl,e=>by
   cases v with
   | own k g n =>
     have e:(match q0Q el t k g (fun xs=>xs) h with
      | some (x,h1)=>(match q1X el t l h1 with
        | some (xs,h2)=>some (x::xs,h2)
        | none=>none)
      | none=>none)=some (x,h'):=e
     split at e
     ·rename_i y h1 hy;split at e
      ·rename_i ys h2 hys;cases e;simp only[okL,SV.ok] at hl;obtain⟨a1,a2,a3⟩:=qOO (d:=2) (n:=n) (o:=0) (m:=n) ho hl.1 (by omega) (fun xs hl=>by rw[zPA,<-hl,zQL]) hy;obtain⟨b1,b2,b3,b4⟩:=qQG a3 (qI a2 hl.2) hys;refine⟨?_,a2.trans b2,b3,by simp[b4]⟩
       show (match fz1 P 3 (qD h.l) (.own k n 0 n) with
        | some (y,ph1)=>(match sN (fz1 P 3) (qC l) ph1 with
          | some (ys,ph2)=>some (y::ys,ph2)
          | none=>none)
        | none=>none)=_
       rw[a1];simp only[b1];rfl
      ·cases e
     ·cases e
   | _=>cases e
theorem q0L:∀ {t:Ty} {k n g:Nat} {h h':SH} {x:List t.sem},OkH P h->q9Q P el t k n h=some (x,h') ->
 fz1 P 4 (qD h.l) (.own k n 0 n)=some ((Ty.list el t).fv x,qD h'.l)∧Keep h h'∧OkH P h'
 | .list e2 t2,k,n,g,h,h',x,ho,e=>by
   have e:qT4 P el e2 t2 k n h=some (x,h'):=e;unfold qT4 at e;split at e
   ·rename_i el' w cs hk
    cases hc:(Nat.beq el' el&&Nat.beq n cs.length) with
    | false=>rw[hc] at e;cases e
    | true =>
      rw[hc] at e;simp only[cond_true] at e;rw[zNT] at hc;have h1:=zNU hc.1;have h2:=zNU hc.2;subst h1;split at e
      ·rename_i hs;have hd:=gZ (k:=k) ho;obtain⟨b1,b2,b3,b4⟩:=qQG hd.2 (qI hd.1 (ho.cells _ _ _ _ hk)) e;refine⟨?_,hd.1.trans b2,b3⟩;simp only[fz1,zP hk]
       show (match szT P el' with
        | some s=>cond (Nat.beq (n*s) (qC cs).length) (match sN (fz1 P 3) (((qC cs).drop (0*s)).take (n*s)) (nC k (qD h.l)) with
          | some (cs,ph')=>some (FV.l el' n cs,ph')
          | none=>none) none
        | none=>none)=_
       rw[hs];simp only[Nat.mul_one,zQ5,zPA,qV,h2,aA,cond_true];rw[zOL (by rw[qV];exact zNV _),show nC k (qD h.l)=qD (h.del k).l from (gP k _).symm,b1];show some (FV.l el' cs.length (x.map (Ty.list e2 t2).fv),_)=some (FV.l el' x.length (x.flatMap (Ty.list e2 t2).cells),_);rw[b4]
       have hf:∀ y:List (List t2.sem),y.flatMap (Ty.list e2 t2).cells=y.map (Ty.list e2 t2).fv:=fun y=>by
        induction y with
        | nil=>rfl
        | cons a y ih=>rw[zOK,ih];rfl
       rw[hf]
      ·cases e
   ·cases e
 | .int _,_,_,_,_,_,_,_,e=>by cases e
 | .bool,_,_,_,_,_,_,_,e=>by cases e
 | .str,_,_,_,_,_,_,_,e=>by cases e
 | .unit,_,_,_,_,_,_,_,e=>by cases e
 | .pair _ _,_,_,_,_,_,_,_,e=>by cases e
 | .raw,_,_,_,_,_,_,_,e=>by cases e
 | .ol _ _,_,_,_,_,_,_,_,e=>by cases e
 | .nif,_,_,_,_,_,_,_,e=>by cases e
theorem qPK {t:Ty}{x:t.sem}(ho:OkH P h)(hv:v.ok h)(e:q2J P ty t v h=some (x,h')) :
 ∃ y,fz1 P 4 (qD h.l) v.enc=some (y,qD h'.l)∧rt0 P ty (.f y)=.f (t.fv x)∧(t.one&&t.nol)=true∧Keep h h'∧OkH P h':=by
 unfold q2J at e;split at e
 ·rename_i el t k g n;simp only[SV.ok] at hv;unfold q8K at e;split at e
  ·rename_i r hr;cases e;obtain⟨h1,h2,h3⟩:=qFM (ty:=ty) (n:=n) (o:=0) (m:=n) ho hv (by omega) (fun xs hl=>by rw[zPA,<-hl,zQL]) hr;exact⟨_,by simp only[SV.enc];exact h1,nI rfl,rfl,h2,h3⟩
  ·obtain⟨h1,h2,h3⟩:=q0L (g:=g) ho e;exact⟨_,by simp only[SV.enc];exact h1,nI rfl,rfl,h2,h3⟩
 ·rename_i el t k g n o m;simp only[SV.ok] at hv;obtain⟨h1,h2,h3⟩:=qFM (ty:=ty) (n:=n) (o:=o) (m:=m) ho hv.1 hv.2 (fun xs hl=>rfl) e;exact⟨_,by simp only[SV.enc];exact h1,nI rfl,rfl,h2,h3⟩
 ·rename_i el t el' k w n;obtain⟨h1,h2,h3⟩:=q1N ho hv e;exact⟨_,by simp only[SV.enc];exact h1,nI rfl,rfl,h2,h3⟩
 ·rename_i el t;unfold zDM at e;split at e
  ·rename_i el' hel
   cases hc:Nat.beq el' el with
   | false=>rw[hc] at e;cases e
   | true =>
     rw[hc] at e;cases e;have he:el'=el:=zNU hc;subst he;refine⟨.v (.slice none 0 0),by simp only[SV.enc,fvv,fz1],?_,rfl,.refl _,ho⟩
     show (match zT P ty with
      | some el=>PV.f (.l el 0 [])
      | none=>fvv (.slice none 0 0))=_
     rw[hel];rfl
  ·cases e
 ·rename_i el t el' k' xs;split at e
  ·rename_i y hy;cases e;unfold q8E at hy;split at hy
   ·rename_i k _
    cases hc:(Nat.beq el' el&&decide (k'=k)) with
    | false=>rw[hc] at hy;cases hy
    | true =>
      rw[hc] at hy;rw[zNT] at hc;have h1:el'=el:=zNU hc.1;have h2:k'=k:=by simpa using hc.2
      subst h1 h2;simp only[cond_true] at hy;split at hy
      ·rename_i e0 he0
       cases hc2:Nat.beq e0 el' with
       | false=>rw[hc2] at hy;cases hy
       | true =>
         rw[hc2] at hy;cases hy;have h3:e0=el':=zNU hc2;subst h3;refine⟨fvo e0 k' xs,by simp only[SV.enc];rfl,?_,rfl,.refl _,ho⟩
         cases xs with
         | nil =>
           show (match zT P ty with
            | some el=>PV.f (.l el 0 [])
            | none=>fvv (.slice none 0 0))=_
           rw[he0];rfl
         | cons x xs=>rfl
      ·cases hy
   ·cases hy
  ·cases e
 ·obtain⟨zL5,e⟩:t.nol=true∧qTF t v h=some (x,h'):=by
   cases hn:t.nol with
   | true=>rw[hn] at e;exact⟨rfl,e⟩
   | false=>rw[hn] at e;cases e
  unfold qTF at e;split at e
  ·rename_i y hy;cases e;obtain⟨h1,h2⟩:=tZ hy;have h3:(t.one&&t.nol)=true:=by rw[h2,zL5];rfl
   exact⟨_,by rw[h1];rfl,nI h3,h3,.refl _,ho⟩
  ·cases e
def zB4 (P:Program)(ty:TypeId)(t:Ty)(v:SV)(h:SH):Option (t.sem×SH):=cond (Gc.ol ty) (qTF t v h) (q2J P ty t v h)
theorem q4H {t:Ty}{x:t.sem}(ho:OkH P h)(hv:v.ok h)(e:zB4 P ty t v h=some (x,h')) :
 ∃ y,fz1 P 4 (qD h.l) v.enc=some (y,qD h'.l)∧rtC P ty (.f y)=.f (t.fv x)∧rtC P ty (.f (t.fv x))=.f (t.fv x)∧t.one=true∧Keep h h'∧OkH P h':=by
 unfold zB4 at e;unfold rtC
 cases hc:Gc.ol ty with
 | true =>
   rw[hc] at e;simp only[cond_true] at e ⊢;unfold qTF at e;split at e
   ·rename_i y hy;cases e;obtain⟨h1,h2⟩:=tZ hy;exact⟨_,by rw[h1];rfl,rfl,trivial,h2,.refl _,ho⟩
   ·cases e
 | false =>
   rw[hc] at e;simp only[cond_false] at e ⊢;obtain⟨y,a1,a2,a3,a4,a5⟩:=qPK ho hv e;exact⟨y,a1,a2,nI a3,(by rw[zNT] at a3;exact a3.1),a4,a5⟩
def qHF (P:Program)(t:Ty)(tys:List TypeId)(l:List SV)(h:SH):Option (t.sem×List TypeId×List SV×SH):=match tys,l with
 | ty::tys,v::l=>(match zB4 P ty t v h with
   | some (x,h')=>some (x,tys,l,h')
   | none=>none)
 | _,_=>none
def Ty.zHF (P:Program):(t:Ty)->List TypeId->List SV->SH->Option (t.sem×List TypeId×List SV×SH)
 | .unit,tys,l,h=>some ((),tys,l,h)
 | .pair a b,tys,l,h=>match a.zHF P tys l h with
   | some (x,zH2,l1,h1)=>(match b.zHF P zH2 l1 h1 with
     | some (y,zKV,l2,h2)=>some ((x,y),zKV,l2,h2)
     | none=>none)
   | none=>none
 | .int k,tys,l,h=>qHF P (.int k) tys l h
 | .bool,tys,l,h=>qHF P .bool tys l h
 | .str,tys,l,h=>qHF P .str tys l h
 | .raw,tys,l,h=>qHF P .raw tys l h
 | .ol el k,tys,l,h=>qHF P (.ol el k) tys l h
 | .nif,tys,l,h=>qHF P .nif tys l h
 | .list el t,tys,l,h=>qHF P (.list el t) tys l h
def zDI (P:Program)(t:Ty)(tys:List TypeId)(l:List SV)(h:SH)(x:t.sem)(zEU:List TypeId)(l':List SV)(h':SH):Prop :=
 okL h' l'∧Keep h h'∧OkH P h'∧∃ ys:List FV,(∀ zs p,sN (fz1 P 4) (qC l') (qD h'.l)=some (zs,p)->sN (fz1 P 4) (qC l) (qD h.l)=some (ys++zs,p)) ∧
  ∀ zs:List PV,rtL (rtC P) tys (ys.map .f++zs)=(t.cells x).map .f++rtL (rtC P) zEU zs∧rtL (rtC P) tys ((t.cells x).map .f++zs)=(t.cells x).map .f++rtL (rtC P) zEU zs
theorem gQ {t:Ty}{tys zEU:List TypeId}{l l':List SV}{x:t.sem}(ho:OkH P h)(hl:okL h l)(e:qHF P t tys l h=some (x,zEU,l',h')):zDI P t tys l h x zEU l' h':=by
 unfold qHF at e;split at e
 ·rename_i ty tys v l;split at e
  ·rename_i y h1 hd;cases e;simp only[okL] at hl;obtain⟨y,a1,a2,a2',a3,a4,a5⟩:=q4H ho hl.1 hd;refine⟨qI a4 hl.2,a4,a5,[y],fun zs p hz=>?_,fun zs=>⟨?_,?_⟩⟩
   ·simp only[qC,sN,a1,hz];rfl
   ·show rtC P ty (.f y)::rtL (rtC P) _ zs=_;rw[a2,Ty.cells_one a3];rfl
   ·rw[Ty.cells_one a3];show rtC P ty (.f (t.fv _))::rtL (rtC P) _ zs=_;rw[a2'];rfl
  ·cases e
 ·cases e
theorem qBH:∀ {t:Ty} {tys zEU:List TypeId} {l l':List SV} {h:SH} {x:t.sem} {h':SH},OkH P h->okL h l->t.zHF P tys l h=some (x,zEU,l',h')->zDI P t tys l h x zEU l' h'
 | .unit,tys,zEU,l,l',h,x,h',ho,hl,e=>by
   cases e;exact⟨hl,.refl _,ho,[],fun zs p hz=>hz,fun zs=>⟨rfl,rfl⟩⟩
 | .int k,tys,zEU,l,l',h,x,h',ho,hl,e=>gQ ho hl e
 | .bool,tys,zEU,l,l',h,x,h',ho,hl,e=>gQ ho hl e
 | .str,tys,zEU,l,l',h,x,h',ho,hl,e=>gQ ho hl e
 | .raw,tys,zEU,l,l',h,x,h',ho,hl,e=>gQ ho hl e
 | .ol _ _,tys,zEU,l,l',h,x,h',ho,hl,e=>gQ ho hl e
 | .nif,tys,zEU,l,l',h,x,h',ho,hl,e=>gQ ho hl e
 | .list el t,tys,zEU,l,l',h,x,h',ho,hl,e=>gQ ho hl e
 | .pair a b,tys,zEU,l,l',h,x,h',ho,hl,e=>by
   unfold Ty.zHF at e;split at e
   ·rename_i x1 zH2 l1 h1 hd1;split at e
    ·rename_i y zKV l2 h2 hd2;cases e;obtain⟨a1,a2,a3,ys,a4,a5⟩:=qBH ho hl hd1;obtain⟨b1,b2,b3,zs,b4,b5⟩:=qBH a3 a1 hd2;refine⟨b1,a2.trans b2,b3,ys++zs,fun us p hu=>?_,fun us=>⟨?_,?_⟩⟩
     ·rw[zOT];exact a4 _ _ (b4 _ _ hu)
     ·rw[zO0,zOT,(a5 _).1,(b5 _).1];show _=(a.cells x1++b.cells y).map PV.f++_;rw[zO0,zOT]
     ·show rtL (rtC P) _ ((a.cells x1++b.cells y).map PV.f++us)=(a.cells x1++b.cells y).map PV.f++_;rw[zO0,zOT,(a5 _).2,(b5 _).2,zOT]
    ·cases e
   ·cases e
def q6H (P:Program)(ty:TypeId)(t:Ty)(v:SV)(h:SH):Option (t.sem×SH):=cond t.one (match v with
 | .agg _=>none
 | v=>q2J P ty t v h) (match v with
 | .agg l=>(match t.zHF P (vW P 8 ty) l h with
   | some (x,_,[],h')=>some (x,h')
   | _=>none)
 | _=>none)
theorem qAT {t:Ty}{x:t.sem}(ho:OkH P h)(hv:v.ok h)(e:q6H P ty t v h=some (x,h')) :
 ∃ y,fzP P (qD h.l) v.enc=some (y,qD h'.l)∧rt1 P ty y=t.pv x∧Keep h h'∧OkH P h'∧rt1 P ty (t.pv x)=t.pv x:=by
 unfold q6H at e
 cases ht:t.one with
 | true =>
   rw[ht] at e;simp only[cond_true] at e;split at e
   ·cases e
   ·rename_i hna;obtain⟨y,h1,h2,h3,h4,h5⟩:=qPK ho hv e
    have hpv:rt1 P ty (t.pv x)=t.pv x:=by
     unfold Ty.pv;rw[ht];exact nI h3
    refine⟨.f y,?_,?_,h4,h5,hpv⟩
    ·cases v with
     | agg l=>exact absurd rfl (hna l)
     | opt b k o w=>cases b <;> (simp only[SV.enc,fvv,fzP,cond_true,cond_false] at h1 ⊢;rw[h1])
     | _=>simp only[SV.enc,fvv,fzP] at h1 ⊢;rw[h1]
    ·show rt0 P ty (.f y)=_;rw[h2];unfold Ty.pv;rw[ht];rfl
 | false =>
   rw[ht] at e;simp only[cond_false] at e;split at e
   ·rename_i l;split at e
    ·rename_i x1 zH2 h1 hd;cases e;simp only[SV.ok] at hv;obtain⟨a1,a2,a3,ys,a4,a5⟩:=qBH ho hv hd
     have hpv:rt1 P ty (t.pv x)=t.pv x:=by
      unfold Ty.pv;rw[ht];show PV.agg (rtL (rtC P) (vW P 8 ty) ((t.cells x).map .f))=_;have:=(a5 []).2;rw[zPN] at this;rw[this];cases zH2 <;> simp[rtL]
     refine⟨.agg (ys.map .f),?_,?_,a2,a3,hpv⟩
     ·have:=a4 [] (qD h'.l) (by simp[qC,sN]);simp only[SV.enc,fzP,this,zPN]
     ·show PV.agg (rtL (rtC P) (vW P 8 ty) (ys.map .f))=_;have:=(a5 []).1;rw[zPN] at this;rw[this];unfold Ty.pv;rw[ht];cases zH2 <;> simp[rtL]
    ·cases e
   ·cases e
def vR (P:Program):List TypeId->(ts:List Ty)->List SV->SH->Option (TyL ts×SH)
 | _,[],[],h=>some ((),h)
 | ty::_,[t],[v],h=>q6H P ty t v h
 | ty::tys,t::u::ts,v::vs,h=>match q6H P ty t v h with
   | some (x,h1)=>(match vR P tys (u::ts) vs h1 with
     | some (y,h2)=>some ((x,y),h2)
     | none=>none)
   | none=>none
 | _,_,_,_=>none
theorem bT:∀ {tys:List TypeId} {ts:List Ty} {vs:List SV} {h:SH} {x:TyL ts} {h':SH},OkH P h->okL h vs->vR P tys ts vs h=some (x,h') ->
 ∃ ys,fzA P (qC vs) (qD h.l)=some (ys,qD h'.l)∧rtL (rt1 P) tys ys=pvL ts x∧Keep h h'∧OkH P h'
 | tys,[],[],h,x,h',ho,hv,e=>by
   unfold vR at e;cases e;refine⟨[],rfl,?_,.refl _,ho⟩;cases tys <;> rfl
 | ty::tys,[t],[v],h,x,h',ho,hv,e=>by
   unfold vR at e;simp only[okL] at hv;obtain⟨y,h1,h2,h3,h4,_⟩:=qAT ho hv.1 e;refine⟨[y],?_,?_,h3,h4⟩
   ·simp only[qC,fzA,h1]
   ·show rt1 P ty y::rtL (rt1 P) tys []=[t.pv x];rw[h2];cases tys <;> rfl
 | ty::tys,t::u::ts,v::vs,h,x,h',ho,hv,e=>by
   unfold vR at e;simp only[okL] at hv;split at e
   ·rename_i x1 h1 hd;split at e
    ·rename_i y1 h2 hd2;cases e;obtain⟨y,a1,a2,a3,a4,_⟩:=qAT ho hv.1 hd;obtain⟨ys,b1,b2,b3,b4⟩:=bT a4 (qI a3 hv.2) hd2;refine⟨y::ys,?_,?_,a3.trans b3,b4⟩
     ·simp only[qC,fzA,a1,b1]
     ·show rt1 P ty y::rtL (rt1 P) tys ys=t.pv x1::pvL (u::ts) y1;rw[a2,b2]
    ·cases e
   ·cases e
 | [],[_],[_],_,_,_,_,_,e=>by unfold vR at e;cases e
 | [],_::_::_,_::_,_,_,_,_,_,e=>by unfold vR at e;cases e
 | tys,[],_::_,_,_,_,_,_,e=>by cases tys <;> (unfold vR at e;cases e)
 | tys,_::ts,[],_,_,_,_,_,e=>by cases tys <;> cases ts <;> (unfold vR at e;cases e)
 | tys,[_],_::_::_,_,_,_,_,_,e=>by cases tys <;> (unfold vR at e;cases e)
def Ty.sv (t:Ty)(x:t.sem):SV:=cond t.one (.d t x) (.agg (t.svs x))
theorem mZ (t:Ty)(x:t.sem):(t.sv x).enc=t.pv x:=by
 unfold Ty.sv Ty.pv;cases t.one <;> simp[SV.enc,gW]
omit [Yl] in
theorem qKQ (t:Ty)(x:t.sem):(t.sv x).ok h:=by
 unfold Ty.sv;cases t.one
 ·simp only[cond_false,SV.ok];exact qEL t x
 ·simp[SV.ok]
def svL:(ts:List Ty)->TyL ts->List SV
 | [],_=>[]
 | [t],x=>[t.sv x]
 | t::u::ts,x=>t.sv x.1::svL (u::ts) x.2
theorem qAZ:∀ (ts:List Ty) (x:TyL ts),qC (svL ts x)=pvL ts x
 | [],_=>by simp[svL,pvL,qC]
 | [t],x=>by simp[svL,pvL,qC,mZ]
 | t::u::ts,x=>by
   show qC (t.sv x.1::svL (u::ts) x.2)=t.pv x.1::pvL (u::ts) x.2;simp only[qC,mZ,qAZ (u::ts)]
omit [Yl] in
theorem qCH:∀ (ts:List Ty) (x:TyL ts),okL h (svL ts x)
 | [],_=>by simp[svL,okL]
 | [t],x=>by simp[svL,okL,qKQ]
 | t::u::ts,x=>by
   show okL h (t.sv x.1::svL (u::ts) x.2);simp only[okL];exact⟨qKQ t x.1,qCH (u::ts) x.2⟩
def qI7 (ts:List Ty)(x:TyL ts):SV:=match svL ts x with
 | [v]=>v
 | vs=>.tup vs
theorem qJU (ts:List Ty)(x:TyL ts):(qI7 ts x).enc=jF ts x:=by
 unfold qI7 jF;rw[<-qAZ]
 match svL ts x with
 | []=>simp[qC,qC2,SV.enc]
 | [v]=>simp[qC,qC2]
 | a::b::l=>simp[qC,qC2,SV.enc]
omit [Yl] in
theorem qPS (ts:List Ty)(x:TyL ts):(qI7 ts x).ok h:=by
 unfold qI7;have:=qCH (h:=h) ts x;split
 ·rename_i v hv;rw[hv] at this;simp only[okL] at this;exact this.1
 ·simp only[SV.ok];exact this
def qP8 (tab:uN)(T:z8):Prop:=∀ g ent,slT g T=some ent->∀ x,tab g (pvL ent.as x)=(ent.F x).map (jF ent.rs)
def okc:FV->Bool
 | .v (.slice _ _ _)=>false
 | .v _=>true
 | .l _ _ _=>false
def _root_.Go.Sv.Ty.pln:Ty->Bool
 | .int _ | .bool | .str | .unit | .nif=>true
 | .pair a b=>Go.Sv.Ty.pln a&&Go.Sv.Ty.pln b
 | _=>false
omit [Yl] in
theorem oZ:∀ (t:Ty) (x:t.sem),(t.cells x).all okc=t.pln
 | .int _,_=>rfl
 | .bool,_=>rfl
 | .str,_=>rfl
 | .unit,_=>rfl
 | .nif,_=>rfl
 | .raw,_=>rfl
 | .list _ _,_=>rfl
 | .ol _ _,xs=>by cases xs <;> rfl
 | .pair a b,x=>by
   show (a.cells x.1++b.cells x.2).all okc=(a.pln&&b.pln);rw[zRF,oZ a,oZ b]
omit [Yl] in
theorem qV2:∀ (cs:List FV),((qJS (cs.map .f)).isSome&&(cs.map PV.f).all q4X)=cs.all okc
 | []=>rfl
 | c::cs=>by
   rw[zO7,<-qV2 cs,zOC,zO7]
   cases c with
   | l el n xs=>rfl
   | v x =>
     have e2:q4X (.f (.v x))=okc (.v x):=by cases x <;> rfl
     rw[e2,show qJS (.f (.v x)::cs.map .f)=(match qJS (cs.map .f) with
      | some vs=>some (x::vs)
      | none=>none) from rfl]
     cases qJS (cs.map PV.f) with
     | none=>simp only[zR9,Bool.false_and,Bool.and_false]
     | some vs=>simp only[zRG,zQR]
omit [Yl] in
theorem qG8 (t:Ty)(x:t.sem):vF (t.pv x)=t.pln∧((pl (t.pv x)).isSome&&qV8 (t.pv x))=t.pln:=by
 unfold Ty.pv
 cases ht:t.one with
 | true =>
   simp only[cond_true];have:=oZ t x;rw[Ty.cells_one ht] at this;rw[<-this,zO7,List.all_nil,zP5]
   cases hv:t.fv x with
   | l el n xs=>exact⟨rfl,rfl⟩
   | v y=>cases y <;> exact⟨rfl,rfl⟩
 | false =>
   simp only[cond_false];have:=qV2 (t.cells x);rw[oZ] at this;refine⟨this,?_⟩;rw[<-this]
   show ((match qJS ((t.cells x).map .f) with
    | some vs=>some (Value.agg vs.toArray)
    | none=>none).isSome&&((t.cells x).map PV.f).all q4X)=_
   cases qJS ((t.cells x).map .f) <;> rfl
def zAF (ts:List Ty):Bool:=ts.all Ty.pln
omit [Yl] in
theorem qK0:∀ (ts:List Ty) (x:TyL ts),((plL (pvL ts x)).isSome&&(pvL ts x).all qV8)=zAF ts
 | [],_=>rfl
 | [t],x=>by
   show ((match pl (t.pv x) with
    | some v=>(match plL [] with
      | some vs=>some (v::vs)
      | none=>none)
    | none=>none).isSome&&((t.pv x)::[]).all qV8)=(t.pln&&true)
   rw[<- (qG8 t x).2,zO7];cases pl (t.pv x) <;> simp[plL]
 | t::u::ts,x=>by
   show ((match pl (t.pv x.1) with
    | some v=>(match plL (pvL (u::ts) x.2) with
      | some vs=>some (v::vs)
      | none=>none)
    | none=>none).isSome&&((t.pv x.1)::pvL (u::ts) x.2).all qV8)=(t.pln&&zAF (u::ts))
   rw[<- (qG8 t x.1).2,<-qK0 (u::ts) x.2,zO7]
   cases pl (t.pv x.1) with
   | none=>simp
   | some v=>cases plL (pvL (u::ts) x.2) with
     | none=>simp
     | some vs=>simp
omit [Yl] in
theorem qH8 (ts:List Ty)(x:TyL ts):vF (jF ts x)=zAF ts:=by
 unfold jF
 match ts,x with
 | [],x=>rfl
 | [t],x =>
   show vF (t.pv x)=(t.pln&&true);rw[(qG8 t x).1,zP5]
 | t::u::ts,x =>
   have:=qK0 (t::u::ts) x;cases ts <;> exact this
def qRB (P:Program)(T:z8)(d:Bool)(g:FuncId)(as:List SV)(h:SH)(K:SV->SH->zED R):zED R:=match slT g T,P.funcs[g]? with
 | some ent,some fn=>(match vR P fn.params.toList ent.as as h with
   | some (x,h1)=>.bind (ent.F x) fun y=>cond d (cond (zAF ent.rs||(qC as).all qKG) (K (qI7 ent.rs y) h) .fail) (K (qI7 ent.rs y) (cond (zAF ent.rs) h h1))
   | none=>.fail)
 | _,_=>.fail
theorem q1B {T:z8}(ht:qP8 tab T){K:SV->SH->zED R}(ho:OkH P h)(ha:okL h as)(e:(qRB P T false g as h K).run=some r) :
 ∃ v h',aB P tab g (qC as) (qD h.l)=.ok v.enc (qD h'.l)∧Post P h h' v∧(K v h').run=some r:=by
 unfold qRB at e;split at e
 ·rename_i ent fn hent hfn;split at e
  ·rename_i x h1 hx;obtain⟨y,hy,e1⟩:=run_bind e;obtain⟨ys,a1,a2,a3,a4⟩:=bT ho ha hx;have e2:(K (qI7 ent.rs y) (cond (vF (jF ent.rs y)) h h1)).run=some r:=by rw[qH8];exact e1
   refine⟨_,_,?_,⟨?_,?_,qPS _ _⟩,e2⟩
   ·unfold aB;rw[a1];simp only;rw[show rtA P g ys=pvL ent.as x by unfold rtA;rw[hfn];exact a2,ht g ent hent x,hy];simp only[zN8,qJU];cases vF (jF ent.rs y) <;> rfl
   ·cases vF (jF ent.rs y)
    ·exact a3
    ·exact .refl _
   ·cases vF (jF ent.rs y)
    ·exact a4
    ·exact ho
  ·cases e
 ·cases e
theorem qUP {T:z8}(ht:qP8 tab T){K:SV->SH->zED R}(ho:OkH P h)(ha:okL h as)(e:(qRB P T true g as h K).run=some r) :
 ∃ v h',rD P tab g (qC as) (qD h.l)=.ok v.enc (qD h'.l)∧Post P h h' v∧(K v h').run=some r:=by
 unfold qRB at e;split at e
 ·rename_i ent fn hent hfn;split at e
  ·rename_i x h1 hx;obtain⟨y,hy,e1⟩:=run_bind e;obtain⟨ys,a1,a2,a3,a4⟩:=bT ho ha hx;obtain⟨c,e2⟩:=qG (show (cond (vF (jF ent.rs y)||(qC as).all qKG) (K (qI7 ent.rs y) h) .fail:zED R).run=some r by rw[qH8];exact e1);refine⟨_,_,?_,⟨.refl _,ho,qPS _ _⟩,e2⟩;unfold rD;rw[a1];simp only;rw[show rtA P g ys=pvL ent.as x by unfold rtA;rw[hfn];exact a2,ht g ent hent x,hy];simp only[zN8,qJU,c,cond_true]
  ·cases e
 ·cases e
def rG (fv:SV)(args:List SV):Option (FuncId×List SV):=match fv with
 | .c (.func (.func g) a c)=>cond (a.toList.isEmpty&&c.toList.isEmpty) (some (g,args)) none
 | .fn g first cap=>some (g,first++(args++cap))
 | _=>none
theorem bR {fv:SV}{args:List SV}(hf:fv.ok h)(ha:okL h args)(e:rG fv args=some (g,as)):target fv.enc (qC args)=some (g,qC as)∧okL h as:=by
 unfold rG at e;split at e
 ·rename_i g' a c
  cases hc:(a.toList.isEmpty&&c.toList.isEmpty) with
  | false=>rw[hc] at e;cases e
  | true =>
    rw[hc] at e;cases e;exact⟨by simp only[target,SV.enc,fvv,hc,cond_true],ha⟩
 ·rename_i g' first cap
  cases e;simp only[SV.ok] at hf;exact⟨by simp only[target,SV.enc,dK],gV hf.1 (gV ha hf.2)⟩
 ·cases e
def q3P (P:Program)(T:z8)(d:Bool)(f:SV)(args:List SV)(h:SH)(K:SV->SH->zED R):zED R:=match rG f args with
 | some (g,as)=>qRB P T d g as h K
 | none=>.fail
def qZ1 (P:Program)(T:z8)(d:Bool)(k:Nat)(o:Oper)(env:List SV)(h:SH)(K:SV->SH->zED R):zED R:=match o.op with
 | .call ⟨.value f,args,_⟩=>q3P P T d (kF env f) (dO env args) h K
 | _=>sop P o env k h K
def qT9 (P:Program)(G:Nat->Bool)(CI:CIT):Prop:=∀ {R:Type} (nm:Nm) (f:FuncId) (as:List SV) (h:SH) (K:SV->SH->zED R) (r:R),OkH P h->okL h as->(CI R nm f as h K).run=some r ->
 qCX P G nm f (qC as) (qD h.l) fun v p=>∃ v' h',v=v'.enc∧p=qD h'.l∧Post P h h' v'∧(K v' h').run=some r
def qPJ (p:Nat->Bool)(env:List SV):List (Nat×SO)->Bool
 | []=>true
 | (k,_)::l=>(!p k||yC k (qC env))&&qPJ p env l
theorem qKE {p:Nat->Bool}{env:List SV}:∀ {l:List (Nat×SO)},qPJ p env l=true->clean p (qC env) (qD l)=true
 | [],_=>rfl
 | (k,o)::l,h=>by
   have h:((!p k||yC k (qC env))&&qPJ p env l)=true:=h;show ((!p k||yC k (qC env))&&clean p (qC env) (qD l))=true;rw[zNT] at h ⊢;exact⟨h.1,qKE h.2⟩
section
variable {Γ:Type}
def q28 (p:Nat->Bool):List (Nat×SO)->Bool
 | []=>true
 | (_,.cells _ _ l)::r=>sI p (qC l)&&q28 p r
 | (_,.list _ _ _ _ _ _)::r=>q28 p r
 | (_,.spc _ (.mit _ j _ _ _))::r=>!(p j)&&q28 p r
 | (_,.spc _ (.map _))::r=>q28 p r
 | (_,.spc _ (.iter _ _))::r=>q28 p r
 | (_,.spc _ (.arr _ _ _))::r=>q28 p r
theorem qU7 (p:Nat->Bool):∀ (cs:List FV),sI p (cs.map .f)=true
 | []=>by simp[sI]
 | c::cs=>by simp[sI,noP,qU7 p cs]
theorem qW8 (p:Nat->Bool):∀ (l:List Nat),sI p (l.map iv)=true
 | []=>by simp[sI]
 | c::cs=>by
   show (true&&sI p (cs.map iv))=true;rw[qW8 p cs];rfl
theorem q0F (p:Nat->Bool)(j si la:Nat)(seen:List Nat):sI p (qLX (.mp j) si la seen)=!(p j):=by
 show (!(p j)&&(true&&(true&&(sI p (seen.map iv)&&true))))=_;rw[qW8];simp
theorem q1W (p:Nat->Bool)(c:Nat):∀ (es:List MapEntry),sI p (wW c es)=true:=fun es=>by
 have:∀ es:List MapEntry,sI p (qDB es)=true:=fun es=>by
  induction es with
  | nil=>rfl
  | cons e es ih=>exact ih
 exact this es
theorem mR {p:Nat->Bool}:∀ {l:List (Nat×SO)},qZD p (qD l)=q28 p l
 | []=>rfl
 | (j,.cells el w l)::r=>by
   show (sI p (qC l)&&qZD p (qD r))=_;rw[mR];rfl
 | (j,.list el gr g w t xs)::r=>by
   show (sI p ((xs.flatMap t.cells).map .f)&&qZD p (qD r))=_;rw[qU7,mR];rfl
 | (j,.spc w (.mit t i si la seen))::r=>by
   show (sI p (qLX (.mp i) si la seen)&&qZD p (qD r))=_;rw[q0F,mR];rfl
 | (j,.spc w (.map es))::r=>by
   show (sI p (wW _ _)&&qZD p (qD r))=_;rw[q1W,mR];rfl
 | (j,.spc w (.iter s pos))::r=>by
   show (sI p (qDV s pos)&&qZD p (qD r))=_;rw[show sI p (qDV s pos)=true from rfl,mR];rfl
 | (j,.spc w (.arr el ik xs))::r=>by
   show (sI p (xs.map fun x=>fvv (.int ik x))&&qZD p (qD r))=_;rw[show (xs.map fun x=>fvv (.int ik x))=(xs.map fun x=>FV.v (.int ik x)).map .f by rw[zP2];rfl,qU7,mR];rfl
def q9S (nm:Nm)(j:FuncId)(env:List SV)(h:SH):Bool:=sI (inB (nm.b+wid nm.b*1000*(j+1))) (qC env)&&(((qD h.l).all fun x=>!inB (nm.b+wid nm.b*1000*(j+1)) x.1||nm.p x.1)&&q28 (zC1 (nm.b+wid nm.b*1000*(j+1))) h.l)
theorem qNB {j:FuncId}{h:SH}:q9S nm j env h=q29 nm j (qC env) (qD h.l):=by
 unfold q9S q29;rw[mR]
def q57 (nm:Nm)(g:FuncId)(env:List SV)(h:SH)(k:FuncId->zED R):zED R :=
 cond (q9S nm g env h) (k g) (cond (q9S nm (g+333) env h) (k (g+333)) (cond (q9S nm (g+666) env h) (k (g+666)) (k g)))
theorem qZ4 {h:SH}{k:FuncId->zED R}:q57 nm g env h k=k (qH3 nm g (qC env) (qD h.l)):=by
 unfold q57 qH3;rw[qNB,qNB,qNB];cases q29 nm g (qC env) (qD h.l)
 ·cases q29 nm (g+333) (qC env) (qD h.l)
  ·cases q29 nm (g+666) (qC env) (qD h.l) <;> rfl
  ·rfl
 ·rfl
def q3J (P:Program)(T:z8)(CI:CIT)(Y:YI Γ)(nm:Nm)(f:SV)(args:List SV)(g:Γ)(env:List SV)(h:SH)(K:Γ->SV->SH->zED R):zED R:=match f with
 | .yv=>(match vR P Y.yt Y.ys args h with
   | some (y,h1)=>.bind (Y.stp g y) fun p=>K p.1 (.d .bool p.2) h1
   | none=>.fail)
 | f=>(match rG f args with
   | some (t,as)=>cond (slT t T).isSome (qRB P T false t as h (K g)) (q57 nm t env h fun j=>CI R (qTB nm j) t as h fun v h2=>cond (qPJ (qTB nm j).p env h2.l) (K g v h2) .fail)
   | none=>.fail)
def q3U (P:Program)(T:z8)(CI:CIT)(Y:YI Γ)(nm:Nm)(o:Oper)(g:Γ)(env:List SV)(h:SH)(K:Γ->SV->SH->zED R):zED R:=match o.op with
 | .call ⟨.value f,args,_⟩=>q3J P T CI Y nm (kF env f) (dO env args) g env h K
 | _=>zDB P o env (qH nm o.dst) h (K g)
def YOk (P:Program)(G:Nat->Bool)(w:Wld Γ)(Y:YI Γ):Prop:=∀ g y g' b,Y.stp g y=some (g',b)->qKM P G w Yl.l g (pvL Y.ys y) g' b
end
theorem qH2 {T:z8}(ht:qP8 tab T){o:Oper}{K:SV->SH->zED R}(ho:OkH P h)(he:okL h env)(e:(qZ1 P T true k o env h K).run=some r) :
 ∃ v h',zO P tab k o (qC env) (qD h.l)=.ok v.enc (qD h'.l)∧Post P h h' v∧(K v h').run=some r:=by
 unfold qZ1 at e;unfold zO;split at e
 ·rename_i f args ts hop;unfold q3P at e;split at e
  ·rename_i g as hst;obtain⟨h1,h2⟩:=bR (mK he f) (fA he args) hst;obtain⟨v,h',a1,a2,a3⟩:=qUP ht ho h2 e;refine⟨v,h',?_,a2,a3⟩;simp only[hop,qR,gI,h1];exact a1
  ·cases e
 ·rename_i hne;obtain⟨v,h',a1,a2,a3⟩:=q2X ho he e;refine⟨v,h',?_,a2,a3⟩;split
  ·rename_i f args ts hop;exact absurd hop (hne f args ts)
  ·rw[a1];rfl
end
end Go.Sv
namespace Go.Sv
open Go.Idl
variable {d:Option Tmp}{el:TypeId}{env:List SV}{h:SH}{o:Oper}{t:Ty}{v x:SV}
noncomputable section
variable [Gc]
variable [Frs]
variable [Yl]
variable {P:Program}{R:Type}{r:R}{tab:uN}{G:Nat->Bool}{nm:Nm}
omit [Yl] in
theorem zEQ {Q Q':List PV->PHp->Prop}(hq:∀ e p,Q e p->Q' e p):∀ {t:PT},t.holds P G Q->t.holds P G Q'
 | .fail,h=>h.elim
 | .ret e p,h=>hq e p h
 | .chk c t,h=>⟨h.1,zEQ hq h.2⟩
 | .call nm g args ph k,h=>by
   obtain⟨R,h1,h2⟩:=h;exact⟨R,h1,fun v p hr=>zEQ hq (h2 v p hr)⟩
 | .rnd _ _ _ _,h=>h.elim
omit [Yl] in
theorem qWT (k:Nat):∀ (cs:List FV),yC k (cs.map .f)=true
 | []=>by simp[yC]
 | c::cs=>by simp[yC,noK,qWT k cs]
def qDI (k:Nat):List (Nat×SO)->Bool
 | []=>true
 | (_,.cells _ _ l)::r=>yC k (qC l)&&qDI k r
 | (_,.list _ _ _ _ _ _)::r=>qDI k r
 | (_,.spc _ (.mit _ j _ _ _))::r=>!(k==j)&&qDI k r
 | (_,.spc _ (.map _))::r=>qDI k r
 | (_,.spc _ (.iter _ _))::r=>qDI k r
 | (_,.spc _ (.arr _ _ _))::r=>qDI k r
theorem qXC (k:Nat):∀ (l:List Nat),yC k (l.map iv)=true
 | []=>by simp[yC]
 | c::cs=>by
   show (true&&yC k (cs.map iv))=true;rw[qXC k cs];rfl
theorem q0K (k j si la:Nat)(seen:List Nat):yC k (qLX (.mp j) si la seen)=!(k==j):=by
 show (!(k==j)&&(true&&(true&&(yC k (seen.map iv)&&true))))=_;rw[qXC];simp
theorem jU {k:Nat}:∀ {l:List (Nat×SO)},qDI k l=true->fZ k (qD l)=true
 | [],_=>rfl
 | (j,.cells el w l)::r,h=>by
   simp only[qDI,zNT] at h;show (yC k (qC l)&&fZ k (qD r))=true;rw[h.1,jU h.2];rfl
 | (j,.list el gr g w t xs)::r,h=>by
   simp only[qDI] at h;show (yC k ((xs.flatMap t.cells).map .f)&&fZ k (qD r))=true;rw[qWT,jU h];rfl
 | (j,.spc w (.mit t i si la seen))::r,h=>by
   simp only[qDI,zNT] at h;show (yC k (qLX (.mp i) si la seen)&&fZ k (qD r))=true;rw[q0K,h.1,jU h.2];rfl
 | (j,.spc w (.map es))::r,h=>by
   simp only[qDI] at h;show (yC k (wW _ _)&&fZ k (qD r))=true;rw[qCA,jU h];rfl
 | (j,.spc w (.iter s pos))::r,h=>by
   simp only[qDI] at h;show (yC k (qDV s pos)&&fZ k (qD r))=true;rw[show yC k (qDV s pos)=true from rfl,jU h];rfl
 | (j,.spc w (.arr el ik xs))::r,h=>by
   simp only[qDI] at h;show (yC k (xs.map fun x=>fvv (.int ik x))&&fZ k (qD r))=true;rw[show (xs.map fun x=>fvv (.int ik x))=(xs.map fun x=>FV.v (.int ik x)).map .f by rw[zP2];rfl,qWT,jU h];rfl
def dQ (env:List SV)(d:Option Tmp)(v:SV):List SV:=match d with
 | some t=>yT env t v
 | none=>env
theorem kD (env:List SV)(t:Nat)(v:SV):qC (yT env t v)=yT (qC env) t v.enc:=by
 rw[qZ,qZ,zH,zH,List.map_set]
theorem kY (env:List SV)(d:Option Tmp)(v:SV):qC (dQ env d v)=yQ (qC env) d v.enc:=by
 cases d with
 | none=>rfl
 | some t=>exact kD env t v
omit [Yl] in
theorem xH {t:Nat}(he:okL h env)(hv:v.ok h):okL h (yT env t v):=by
 rw[qZ]
 exact zM.2 fun x hx=>by
  rcases List.mem_or_eq_of_mem_set hx with q | q
  ·exact zM.1 he x q
  ·rw[q];exact hv
omit [Yl] in
theorem vZ (he:okL h env)(hv:v.ok h):okL h (dQ env d v):=by
 cases d with
 | none=>exact he
 | some t=>exact xH he hv
omit [Yl] in
theorem jL (env:List SV)(t:Nat)(v:SV):(yT env t v).length=env.length:=by rw[qZ,zOY]
omit [Yl] in
theorem q1Z (env:List SV)(d:Option Tmp)(v:SV):(dQ env d v).length=env.length:=by
 cases d with
 | none=>rfl
 | some t=>exact jL env t v
theorem qO9 {t:Nat}{w:SV}(h1:zL env t=some v)(h2:w.enc=v.enc):qC (yT env t w)=qC env:=by
 rw[kD,qZ];rw[qF] at h1;apply zPB;intro i;rw[zON];by_cases e:t=i
 ·subst e;rw[if_pos rfl,zH,zN9,h1,zN5,if_pos (zN0.1 h1).1,h2];rfl
 ·rw[if_neg e]
def zJ (b w:Bool):Bool:=cond w b (!b)
omit [Yl] in
theorem qNV (b w:Bool):zJ b w=(b==w):=by cases b <;> cases w <;> rfl
def qCK (ds:List (Option Tmp))(o:Oper)(env:List SV)(Y N:List SV->zED R):zED R:=match o.guard with
 | none=>Y env
 | some (j,w)=>(match qRN ds j with
   | none=>N env
   | some t=>(match zL env t with
     | none=>.fail
     | some v=>(match asB v with
       | some b=>.ite (zJ b w) (Y (yT env t (.c (.bool w)))) (N (yT env t (.c (.bool (!w)))))
       | none=>(match v with
         | .tup []=>N env
         | _=>.fail))))
theorem pV {ds:List (Option Tmp)}{Y N:List SV->zED R}(he:okL h env)(e:(qCK ds o env Y N).run=some r) :
 ∃ env',qC env'=qC env∧okL h env'∧env'.length=env.length∧((vI ds o (qC env)=some true∧(Y env').run=some r)∨(vI ds o (qC env)=some false∧(N env').run=some r)):=by
 unfold qCK at e;unfold vI;split at e
 ·rename_i hg;exact⟨env,rfl,he,rfl,.inl ⟨by rw[hg],e⟩⟩
 ·rename_i j w hg;rw[hg];simp only;split at e
  ·rename_i hd;exact⟨env,rfl,he,rfl,.inr ⟨by rw[hd];rfl,e⟩⟩
  ·rename_i t hd;rw[hd];simp only[qND,zA];split at e
   ·cases e
   ·rename_i v hv;rw[hv];split at e
    ·rename_i b hb;have hbe:=pY hb
     rcases run_ite e with ⟨z,e1⟩ | ⟨z,e1⟩
     ·rw[qNV] at z;have:b=w:=by simpa using z
      subst this;refine⟨_,qO9 hv (by rw[hbe];simp[SV.enc]),xH he (by simp[SV.ok]),jL _ _ _,.inl ⟨?_,e1⟩⟩;simp only[zN8,hbe,qBI,z]
     ·rw[qNV] at z
      have:b=!w:=by cases b <;> cases w <;> first | rfl | cases z
      refine⟨_,qO9 hv (by rw[hbe,this];simp[SV.enc]),xH he (by simp[SV.ok]),jL _ _ _,.inr ⟨?_,e1⟩⟩;simp only[zN8,hbe,qBI,z]
    ·split at e
     ·exact⟨env,rfl,he,rfl,.inr ⟨by simp only[zN8,SV.enc,qC];exact qRZ,e⟩⟩
     ·cases e
def qEY (nm:Nm)(k:Nat)(env:List SV)(h:SH):Bool:=inP nm k&&(yC k (qC env)&&qDI k h.l)
section
variable {Γ:Type}
def qYM (P:Program)(T:z8)(CI:CIT)(Y:YI Γ)(nm:Nm)(ds:List (Option Tmp)):List Oper->Γ->List SV->SH->(Γ->List SV->SH->zED R)->zED R
 | [],g,env,h,K=>K g env h
 | o::l,g,env,h,K=>qCK ds o env
    (fun env=>cond (cond (needs o.op) (qEY nm (qH nm o.dst) env h) true) (q3U P T CI Y nm o g env h fun g v h'=>qYM P T CI Y nm ds l g (dQ env o.dst v) h' K) .fail)
    (fun env=>qYM P T CI Y nm ds l g (dQ env o.dst (.tup [])) h K)
end
def Ends (P:Program)(w:List (Option Tmp))(env:List SV)(h:SH)(env':List SV)(h':SH):Prop :=
 okL h' env'∧OkH P h'∧Keep h h'∧(∀ i,some i ∉ w->zL (qC env') i=zL (qC env) i)∧env'.length=env.length
theorem q6E {i:Nat}(h:d≠some i):zL (qC (dQ env d v)) i=zL (qC env) i:=by
 cases d with
 | none=>rfl
 | some t =>
   show zL (qC (yT env t v)) i=_;rw[kD,qZ,qF,qF,zON,if_neg (fun e=>h (by rw[e]))]
theorem Ends.step {w:List (Option Tmp)}{zEI:List SV}{h1:SH}{env':List SV}{h':SH}(he:qC env=qC zEI)(hl:env.length=zEI.length)(hk:Keep h h1)(x:Ends P w (dQ env o.dst v) h1 env' h'):Ends P (o.dst::w) zEI h env' h' :=
 ⟨x.1,x.2.1,hk.trans x.2.2.1,fun i hi=>by
   rw[zOF,not_or] at hi
   rw[x.2.2.2.1 i hi.2,q6E (fun e=>hi.1 e.symm),he],by rw[x.2.2.2.2,q1Z,hl]⟩
omit [Yl] in
theorem kM {Γ:Type}{w:Wld Γ}{Q Q':Γ->List PV->PHp->Prop}(hq:∀ g e p,Q g e p->Q' g e p):∀ {t:PT} {g:Γ},t.zFA P G w Q g->t.zFA P G w Q' g
 | .fail,_,h=>h.elim
 | .ret e p,g,h=>hq g e p h
 | .chk c t,g,h=>⟨h.1,kM hq h.2⟩
 | .call nm f args ph k,g,h=>by
   obtain⟨R,h1,h2⟩:=h;exact⟨R,h1,fun v p hr=>kM hq (h2 v p hr)⟩
 | .rnd l args ph k,g,h=>by
   obtain⟨zFI,tys,ph1,g',b,h1,h2,h3⟩:=h;exact⟨zFI,tys,ph1,g',b,h1,h2,kM hq h3⟩
def q2A (T:z8)(f:FuncId):Bool:=!(slT f T).isSome
theorem qFK {Γ:Type}{w:Wld Γ}{T:z8}{CI:CIT}{Y:YI Γ}(ht:qP8 tab T)(hci:qT9 P G CI)(hy:YOk P G w Y){ds:List (Option Tmp)}:∀ {l:List Oper} {g:Γ} {env:List SV} {h:SH} {K:Γ->List SV->SH->zED R},OkH P h->okL h env->(qYM P T CI Y nm ds l g env h K).run=some r ->
 (pops P tab (q2A T) nm ds l (qC env) (qD h.l)).zFA P G w (fun g e p=>∃ env' h',e=qC env'∧p=qD h'.l∧Ends P (l.map (·.dst)) env h env' h'∧(K g env' h').run=some r) g
 | [],g,env,h,K,ho,he,e=>⟨env,h,rfl,rfl,⟨he,ho,.refl _,fun _ _=>rfl,rfl⟩,e⟩
 | o::l,g,env,h,K,ho,he,e=>by
   unfold qYM at e;obtain⟨zEJ,q1,q2,q3,q4⟩:=pV he e;rw[qU6]
   rcases q4 with ⟨hw,e1⟩ | ⟨hw,e1⟩
   ·rw[hw,qZ6];obtain⟨c,e2⟩:=qG e1
    have next:∀ {g':Γ} {v:SV} {h':SH},Post P h h' v->(qYM P T CI Y nm ds l g' (dQ zEJ o.dst v) h' K).run=some r->(pops P tab (q2A T) nm ds l (yQ (qC env) o.dst v.enc) (qD h'.l)).zFA P G w (fun g e p=>∃ env' h',e=qC env'∧p=qD h'.l∧Ends P ((o::l).map (·.dst)) env h env' h'∧(K g env' h').run=some r) g':=fun {g' v h'} a2 a3=>by
     have ih:=qFK ht hci hy a2.2.1 (vZ (d:=o.dst) (qI a2.1 q2) a2.2.2) a3;rw[kY,q1] at ih;exact kM (fun g e p ⟨env',h',b1,b2,b3,b4⟩=>⟨env',h',b1,b2,Ends.step q1 q3 a2.1 b3,b4⟩) ih
    have chk:∀ {g':Γ} {v:SV} {h':SH},Post P h h' v->(qYM P T CI Y nm ds l g' (dQ zEJ o.dst v) h' K).run=some r->(q7O (needs o.op) (qH nm o.dst) nm (qC env) (qD h.l) (pops P tab (q2A T) nm ds l (yQ (qC env) o.dst v.enc) (qD h'.l))).zFA P G w (fun g e p=>∃ env' h',e=qC env'∧p=qD h'.l∧Ends P ((o::l).map (·.dst)) env h env' h'∧(K g env' h').run=some r) g':=fun {g' v h'} a2 a3=>by
     unfold q7O
     cases hn:needs o.op with
     | false=>exact next a2 a3
     | true =>
       rw[hn] at c;simp only[cond_true] at c ⊢;refine⟨?_,next a2 a3⟩;unfold qEY at c;rw[q1] at c;simp only[zNT] at c;unfold fresh;rw[c.1,c.2.1,jU c.2.2];rfl
    unfold q3U at e2;split at e2
    ·rename_i f args ts hop
     have hpe:aI P tab (q2A T) (qH nm o.dst) o (qC env) (qD h.l)=oI P tab (q2A T) (kF zEJ f).enc (qC (dO zEJ args)) (qD h.l):=by
      unfold aI;rw[<-q1];simp only[hop,qR,gI]
     rw[hpe];have hfv:=mK q2 f;have has:=fA q2 args
     revert e2 hfv
     generalize kF zEJ f=fv;intro e2 hfv;unfold q3J at e2;split at e2
     ·split at e2
      ·rename_i y h1 hd;obtain⟨p,hp,e3⟩:=run_bind e2;obtain⟨g',b⟩:=p;obtain⟨ys,a1,a2,a3,a4⟩:=bT ho has hd
       have:oI P tab (q2A T) (SV.enc .yv) (qC (dO zEJ args)) (qD h.l)=.rnd Yl.l (qC (dO zEJ args)) (qD h.l):=by
        simp only[SV.enc,oI]
       rw[this,qXT];refine⟨ys,Y.yt,qD h1.l,g',b,a1,?_,?_⟩
       ·rw[a2];exact hy _ _ _ _ hp
       ·have:=next (v:=.d .bool b) ⟨a3,a4,by simp[SV.ok]⟩ e3;simpa [SV.enc,Ty.fv,fvv] using this
      ·cases e2
     ·split at e2
      ·rename_i t as hst;obtain⟨h1,h2⟩:=bR hfv has hst;rw[qJR h1];unfold eG q2A
       cases hsl:(slT t T).isSome with
       | true =>
         rw[hsl] at e2;simp only[cond_true] at e2;obtain⟨v,h',a1,a2,a3⟩:=q1B ht ho h2 e2;simp only[zRP,cond_false];rw[a1,qPG];exact chk a2 a3
       | false =>
         rw[hsl] at e2;simp only[cond_false] at e2;simp only[Bool.not_false,cond_true];rw[qRA];rw[qZ4,q1] at e2;refine⟨_,hci _ _ _ _ _ _ ho h2 e2,?_⟩;rintro v p ⟨v',h',rfl,rfl,a2,a3⟩;obtain⟨c2,a4⟩:=qG a3;have:=qKE c2;rw[q1] at this;exact⟨this,next a2 a4⟩
      ·cases e2
    ·rename_i hne;obtain⟨v,h',a1,a2,a3⟩:=q4O ho q2 e2;rw[q1] at a1
     have hpe:aI P tab (q2A T) (qH nm o.dst) o (qC env) (qD h.l)=.ok v.enc (qD h'.l):=by
      unfold aI;split
      ·rename_i f args ts hop;exact absurd hop (hne f args ts)
      ·rw[a1];rfl
     rw[hpe,qPG];exact chk a2 a3
   ·rw[hw,qTQ];have ih:=qFK ht hci hy ho (vZ (d:=o.dst) (v:=.tup []) q2 (by simp[SV.ok,okL])) e1;rw[kY,q1] at ih;simp only[SV.enc,qC] at ih;exact kM (fun g e p ⟨env',h',b1,b2,b3,b4⟩=>⟨env',h',b1,b2,Ends.step q1 q3 (.refl _) b3,b4⟩) ih
def qVX (P:Program)(T:z8)(nm:Nm)(ds:List (Option Tmp))(b:DB)(zEI:List SV):Nat->List Oper->List SV->SH->List (Nat×List Nat)->List (Nat×List Nat)->List (Nat×Nat)->List (Nat×PV)->(List SV->SH->zED R)->zED R
 | i,[],env,h,E,F,N,V,K=>cond (mD b (qC zEI) E F N V) (K env h) .fail
 | i,o::l,env,h,E,F,N,V,K=>qCK ds o env
    (fun env=>cond (cond (needs o.op) (inP nm (qH nm o.dst)&&qDI (qH nm o.dst) h.l) true) (qZ1 P T true (qH nm o.dst) o env h fun v h' =>
      qVX P T nm ds b zEI (i+1) l (dQ env o.dst v) h' (cond (zC o) ((i,wlT nm o (qC env))::E) E) (cond (zC o) F ((i,dlT o (qC env))::F)) (cond (needs o.op) ((i,qH nm o.dst)::N) N) ((i,v.enc)::V) K) .fail)
    (fun env=>qVX P T nm ds b zEI (i+1) l (dQ env o.dst (.tup [])) h E F N ((i,.tup [])::V) K)
theorem qGH {T:z8}(ht:qP8 tab T){ds:List (Option Tmp)}{b:DB}{zEI:List SV}:∀ {l:List Oper} {i:Nat} {env:List SV} {h:SH} {E F:List (Nat×List Nat)} {N:List (Nat×Nat)} {V:List (Nat×PV)} {K:List SV->SH->zED R},OkH P h->okL h env->(qVX P T nm ds b zEI i l env h E F N V K).run=some r ->
 (qH0 P tab nm ds b (qC zEI) i l (qC env) (qD h.l) E F N V).holds P G fun e p=>∃ env' h',e=qC env'∧p=qD h'.l∧Ends P (l.map (·.dst)) env h env' h'∧(K env' h').run=some r
 | [],i,env,h,E,F,N,V,K,ho,he,e=>by
   unfold qVX at e;obtain⟨c,e1⟩:=qG e;rw[q0Z];exact⟨c,env,h,rfl,rfl,⟨he,ho,.refl _,fun _ _=>rfl,rfl⟩,e1⟩
 | o::l,i,env,h,E,F,N,V,K,ho,he,e=>by
   unfold qVX at e;obtain⟨zEJ,q1,q2,q3,q4⟩:=pV he e;rw[qTK]
   rcases q4 with ⟨hw,e1⟩ | ⟨hw,e1⟩
   ·rw[hw,qXK];obtain⟨c,e2⟩:=qG e1;obtain⟨v,h',a1,a2,a3⟩:=qH2 ht ho q2 e2;rw[q1] at a1;rw[a1,qU0];have ih:=qGH ht a2.2.1 (vZ (d:=o.dst) (qI a2.1 q2) a2.2.2) a3;rw[kY,q1] at ih;have ih2:=zEQ (Q':=fun e p=>∃ env' h',e=qC env'∧p=qD h'.l∧Ends P ((o::l).map (·.dst)) env h env' h'∧(K env' h').run=some r) (fun e p ⟨env',h',b1,b2,b3,b4⟩=>⟨env',h',b1,b2,Ends.step q1 q3 a2.1 b3,b4⟩) ih;unfold qBY
    cases hn:needs o.op with
    | false=>rw[hn] at ih2;exact ih2
    | true =>
      rw[hn] at c ih2;simp only[cond_true] at c ⊢;refine⟨?_,ih2⟩;rw[zNT] at c;rw[c.1,jU c.2];rfl
   ·rw[hw,qRP];have ih:=qGH ht ho (vZ (d:=o.dst) (v:=.tup []) q2 (by simp[SV.ok,okL])) e1;rw[kY,q1] at ih;simp only[SV.enc,qC] at ih;exact zEQ (fun e p ⟨env',h',b1,b2,b3,b4⟩=>⟨env',h',b1,b2,Ends.step q1 q3 (.refl _) b3,b4⟩) ih
def qJL (R:List Nat)(l:List (Nat×SO)):List (Nat×SO):=R.filterMap fun k=>(slk k l).map fun o=>(k,o)
theorem qCG {l:List (Nat×SO)}:∀ (R:List Nat),qD (qJL R l)=bH R (qD l)
 | []=>rfl
 | k::R=>by
   have ih:=qCG (l:=l) R;unfold qJL bH at ih ⊢;rw[zR6,zR6,vH]
   cases hk:slk k l with
   | none=>simp only[zR2];exact ih
   | some o =>
     simp only[zN8];show (k,o.enc)::qD _=_;rw[ih]
def zCH (b:Array Nat)(h0:List (Nat×SO))(zEI:List PV)(E F:List (Nat×List Nat))(N:List (Nat×Nat))(V:List (Nat×PV))(O:List (Nat×List (Nat×SO))):Bool :=
 (E.all fun e=>(E++F).all fun f=>Nat.beq e.1 f.1||(qOZ b e.1 f.1||f.2.all fun l=>!e.2.contains l)) &&
   N.all fun n=>yC n.2 zEI&&(qDI n.2 h0&&((V.all fun v=>Nat.beq v.1 n.1||(vK b n.1 v.1||noK n.2 v.2))&&O.all fun c=>Nat.beq c.1 n.1||(vK b n.1 c.1||qDI n.2 c.2)))
def qZH (O:List (Nat×List (Nat×SO))):List (Nat×PHp):=O.map fun c=>(c.1,qD c.2)
theorem q6B {b:Array Nat}{h0:List (Nat×SO)}{zEI:List PV}{E F:List (Nat×List Nat)}{N:List (Nat×Nat)}{V:List (Nat×PV)}{O:List (Nat×List (Nat×SO))}(h:zCH b h0 zEI E F N V O=true):q74 b (qD h0) zEI E F N V (qZH O)=true:=by
 unfold zCH at h;unfold q74;rw[zNT] at h ⊢;refine⟨h.1,zNW.2 fun n hn=>?_⟩;have h2:=zNW.1 h.2 n hn;rw[zNT,zNT,zNT] at h2 ⊢;refine⟨h2.1,jU h2.2.1,h2.2.2.1,zNW.2 fun c hc=>?_⟩;obtain⟨c0,hc0,rfl⟩:=zOJ.1 hc;have h3:=zNW.1 h2.2.2.2 c0 hc0;rw[zOU,zOU] at h3 ⊢;rcases h3 with h | h | h
 ·exact .inl h
 ·exact .inr (.inl h)
 ·exact .inr (.inr (jU h))
def qZ0 (l:List (Nat×SO)):PV->Bool
 | .own k _ _ _=>(match slk k l with
   | some (.list _ _ _ _ _ _)=>true
   | _=>false)
 | x=>qKG x
theorem qP0 {l:List (Nat×SO)}{x:PV}(h:qZ0 l x=true):qJE (qD l) x=true:=by
 cases x with
 | own k t o n =>
   unfold qZ0 at h;unfold qJE;simp only at h ⊢;rw[vH];split at h
   ·rename_i el gr g w u xs hk;rw[hk];simp only[zN8];show (((List.flatMap u.cells xs).map PV.f).all qSZ)=true;rw[zNW];intro z hz;obtain⟨y,_,rfl⟩:=zOJ.1 hz;rfl
   ·cases h
 | _=>exact h
def qU9 (o:Oper)(env:List PV):Bool:=match o.op with
 | .call ⟨.value f,args,_⟩=>(match target (qK env f) (args.toList.map (qK env)) with
   | some (g,_)=>(match Frs.fr g with
     | none=>true
     | some _=>false)
   | none=>true)
 | _=>true
theorem qY8 {env:List PV}(h:qU9 o env=true):pfr o env=none:=by
 cases hp:pfr o env with
 | none=>rfl
 | some q =>
   obtain⟨el,n,cs⟩:=q;obtain⟨f,args,ts,g,hop,ht,hg⟩:=qMI hp;unfold qU9 at h;rw[hop] at h;simp only[ht,hg] at h;cases h
def sfr (o:Oper)(env:List SV):Option SV:=match o.op with
 | .call ⟨.value f,args,_⟩=>(match rG (kF env f) (dO env args) with
   | some (g,[.d (.list el t) xs])=>(match Frs.fr g with
     | some el'=>cond (Nat.beq el el') (some (.d (.list el t) xs)) none
     | none=>none)
   | _=>none)
 | _=>none
theorem q8Q (he:okL h env)(e:sfr o env=some x):∃ el t,∃ xs:List (Ty.sem t),x=.d (.list el t) xs∧pfr o (qC env)=some (el,xs.length,xs.flatMap t.cells):=by
 unfold sfr at e;split at e
 case h_2=>cases e
 rename_i f args ts hop;split at e
 case h_2=>cases e
 rename_i g el t xs hst;split at e
 case h_2=>cases e
 rename_i el' hg
 cases hc:Nat.beq el el' with
 | false=>rw[hc] at e;cases e
 | true =>
   rw[hc] at e;cases e;obtain⟨h1,_⟩:=bR (mK he f) (fA he args) hst;refine⟨el,t,xs,rfl,?_⟩;unfold pfr;rw[hop];simp only[qR,gI,h1,qC,SV.enc,Ty.fv,hg,hc,cond_true]
def frT (P:Program)(el:TypeId)(w:Nat)(t:Ty):Bool:=match szT P el,t with
 | some (s+1),.int k=>Nat.beq w (s+1)&&(kT P el&&decide (k=Frs.fk))
 | _,_=>false
theorem qXL {k:IntKind}:∀ (xs:List Int),(List.flatMap (Ty.int k).cells xs).all (isK k)=true
 | []=>rfl
 | x::xs=>by
   rw[zOK,zRF,qXL xs];simp[Ty.cells,isK]
theorem qXG {xs:List t.sem}(h:frT P el t.w t=true)(hn:Nat.ble xs.length 1048576=true):qK5 P el xs.length (xs.flatMap t.cells)=true:=by
 unfold frT at h;unfold qK5;split at h
 ·rename_i s k hs;rw[zNT,zNT] at h;have hw:=zNU h.1;have hk:k=Frs.fk:=of_decide_eq_true h.2.2;subst hk;rw[hs];have h1:(List.flatMap (Ty.int Frs.fk).cells xs).length=xs.length*(s+1):=by rw[zX,hw]
  have h2:(List.flatMap (Ty.int Frs.fk).cells xs).all (isK Frs.fk)=true:=qXL xs;show (Nat.beq (xs.length*(s+1)) (List.flatMap (Ty.int Frs.fk).cells xs).length&&(Nat.ble xs.length 1048576&&(kT P el&&(List.flatMap (Ty.int Frs.fk).cells xs).all (isK Frs.fk))))=true;rw[h1,h2,hn,h.2.1,zRY];rfl
 ·cases h
theorem zBU {w:Nat}(h:frT P el w t=true):szT P el=some w∧0 < w:=by
 unfold frT at h;split at h
 ·rename_i s k hs;rw[zNT] at h;have hw:=zNU h.1;rw[hw];exact⟨hs,Nat.succ_pos _⟩
 ·cases h
def zBO (P:Program)(el:TypeId)(t:Ty)(v:SV)(h:SH):Option SV:=match v with
 | .own k g _=>(match q0Q el t k g (fun xs=>xs) h with
   | some (xs,_)=>some (.d (.list el t) xs)
   | none=>none)
 | .sl k g _ o m=>(match q0Q el t k g (fun xs=>(xs.drop o).take m) h with
   | some (xs,_)=>some (.d (.list el t) xs)
   | none=>none)
 | _=>none
def scp (P:Program)(o:Oper)(env:List SV)(h:SH):Option SV:=match o.op with
 | .call ⟨.value f,args,_⟩=>(match rG (kF env f) (dO env args) with
   | some (g,[v])=>(match Frs.fr g with
     | some el=>(match qDM P 8 el with
       | some t=>zBO P el t v h
       | none=>none)
     | none=>none)
   | _=>none)
 | _=>none
theorem q7B {t:Ty}(ho:OkH P h)(hv:v.ok h)(e:zBO P el t v h=some x):∃ xs:List t.sem,x=.d (.list el t) xs∧(∃ ph1,fzA P [v.enc] (qD h.l)=some ([.f (.l el xs.length (xs.flatMap t.cells))],ph1))∧∃ k t' o n,v.enc=.own k t' o n:=by
 have key:∀ {k n o m:Nat} {xs:List t.sem} {ph1:PHp},fz1 P 4 (qD h.l) (.own k n o m)=some ((Ty.list el t).fv xs,ph1)->fzA P [.own k n o m] (qD h.l)=some ([.f (.l el xs.length (xs.flatMap t.cells))],ph1):=fun {k n o m xs ph1} hz=>by
  unfold fzA fzP;simp only[hz,fzA];rfl
 unfold zBO at e;split at e
 ·rename_i k g n;split at e
  ·rename_i xs h' hd;cases e;simp only[SV.ok] at hv;obtain⟨h1,_⟩:=qFM (ty:=0) (n:=n) (o:=0) (m:=n) ho hv (by omega) (fun xs hl=>by rw[zPA,<-hl,zQL]) hd;exact⟨xs,rfl,⟨_,by simp only[SV.enc];exact key h1⟩,_,_,_,_,by simp only[SV.enc];rfl⟩
  ·cases e
 ·rename_i k g n o m;split at e
  ·rename_i xs h' hd;cases e;simp only[SV.ok] at hv;obtain⟨h1,_⟩:=qFM (ty:=0) (n:=n) (o:=o) (m:=m) ho hv.1 hv.2 (fun xs hl=>rfl) hd;exact⟨xs,rfl,⟨_,by simp only[SV.enc];exact key h1⟩,_,_,_,_,by simp only[SV.enc];rfl⟩
  ·cases e
 ·cases e
theorem q88 (ho:OkH P h)(he:okL h env)(e:scp P o env h=some x):∃ el t,∃ xs:List (Ty.sem t),x=.d (.list el t) xs∧pfr o (qC env)=none∧(∃ f args ts,o.op=.call ⟨.value f,args,ts⟩) ∧
 (qK5 P el xs.length (xs.flatMap t.cells)=true->pcp P o (qC env) (qD h.l)=some (.l el xs.length (xs.flatMap t.cells))):=by
 unfold scp at e;split at e
 case h_2=>cases e
 rename_i f args ts hop;split at e
 case h_2=>cases e
 rename_i g v hst;split at e
 case h_2=>cases e
 rename_i el hg;split at e
 case h_2=>cases e
 rename_i t ht;obtain⟨h1,h2⟩:=bR (mK he f) (fA he args) hst;simp only[okL] at h2;obtain⟨xs,rfl,⟨ph1,hz⟩,k,t',o',n',hv⟩:=q7B ho h2.1 e
 have htg:target (qK (qC env) f) (args.toList.map (qK (qC env)))=some (g,[v.enc]):=by
  simp only[qR,gI,h1,qC]
 refine⟨el,t,xs,rfl,?_,⟨f,args,ts,hop⟩,fun hfo=>?_⟩
 ·unfold pfr;rw[hop];simp only[htg,hv]
 ·unfold pcp;rw[hop];simp only[htg,hg,hz];unfold zA3;simp only[hfo,show Nat.beq el el=true by simp,zOS,cond_true]
theorem qY3 {env:List PV}{ph:PHp}(h:qU9 o env=true):pcp P o env ph=none:=by
 cases hq:pcp P o env ph with
 | none=>rfl
 | some y =>
   obtain⟨f,args,ts,g,as,el,n,cs,p1,hop,ht,hg,_⟩:=rC hq;unfold qU9 at h;rw[hop] at h;simp only[ht,hg] at h;cases h
def zC6 (ops:Array Oper):Bool:=ops.toList.any fun o=>match o.op with
 | .call ⟨.value (.func g),_,_⟩=>(Frs.fr g).isSome
 | _=>false
def qDC (P:Program)(T:z8)(nm:Nm)(ds:List (Option Tmp))(b:Array Nat)(zEI:List SV)(h0:SH):Nat->List Oper->List SV->SH->List (Nat×List Nat)->List (Nat×List Nat)->List (Nat×Nat)->List (Nat×PV)->List (Nat×List (Nat×SO))->(List SV->SH->zED R)->zED R
 | i,[],env,h,E,F,N,V,O,K=>cond (zCH b h0.l (qC zEI) E F N V O) (K env h) .fail
 | i,o::l,env,h,E,F,N,V,O,K=>qCK ds o env
    (fun env=>match scp P o env h with
     | some (.d (.list el t) xs)=>cond (frT P el t.w t&&(nM o (qC env)).all (qZ0 h.l)) (.ite (Nat.ble xs.length 1048576)
        (qDC P T nm ds b zEI h0 (i+1) l (dQ env o.dst (.d (.list el t) xs)) h E ((i,dlC o (qC env))::F) N ((i,(SV.d (.list el t) xs).enc)::V) O K) .fail) .fail
     | some _=>.fail
     | none=>match sfr o env with
      | some (.d (.list el t) xs)=>cond (frT P el t.w t&&inP nm (qH nm o.dst)) (.ite (Nat.beq xs.length 0)
         (qDC P T nm ds b zEI h0 (i+1) l (dQ env o.dst (.d (.list el t) [])) h E ((i,dlC o (qC env))::F) N ((i,.f (.l el 0 []))::V) O K)
         (.ite (Nat.ble xs.length 1048576)
           (qDC P T nm ds b zEI h0 (i+1) l (dQ env o.dst (.own (qH nm o.dst) h.next xs.length)) (h.new (qH nm o.dst) fun v=>.list el true v v t xs) ((i,[qH nm o.dst])::E) F ((i,qH nm o.dst)::N) ((i,.own (qH nm o.dst) xs.length 0 xs.length)::V)
             ((i,qJL [qH nm o.dst] (h.new (qH nm o.dst) fun v=>.list el true v v t xs).l)::O) K) .fail)) .fail
      | some _=>.fail
      | none=>cond ((qU9 o (qC env)&&(okE o||(!zC o||kE o)))&&((nM o (qC env)).all (qZ0 h.l)&&cond (needs o.op) (inP nm (qH nm o.dst)) true)) (qZ1 P T true (qH nm o.dst) o env h fun v h' =>
      qDC P T nm ds b zEI h0 (i+1) l (dQ env o.dst v) h' (cond (okE o) ((i,RC o (qH nm o.dst) (qC env))::E) E) (cond (okE o) F ((i,dlC o (qC env))::F)) (cond (needs o.op) ((i,qH nm o.dst)::N) N) ((i,v.enc)::V) (cond (okE o) ((i,qJL (RC o (qH nm o.dst) (qC env)) h'.l)::O) O) K) .fail)
    (fun env=>qDC P T nm ds b zEI h0 (i+1) l (dQ env o.dst (.tup [])) h E F N ((i,.tup [])::V) O K)
theorem dH {T:z8}(ht:qP8 tab T){ds:List (Option Tmp)}{b:Array Nat}{zEI:List SV}{h0:SH}:∀ {l:List Oper} {i:Nat} {env:List SV} {h:SH} {E F:List (Nat×List Nat)} {N:List (Nat×Nat)} {V:List (Nat×PV)} {O:List (Nat×List (Nat×SO))} {K:List SV->SH->zED R},OkH P h->okL h env->(qDC P T nm ds b zEI h0 i l env h E F N V O K).run=some r ->
 (qIL P tab nm ds b (qC zEI) (qD h0.l) i l (qC env) (qD h.l) E F N V (qZH O)).holds P G fun e p=>∃ env' h',e=qC env'∧p=qD h'.l∧Ends P (l.map (·.dst)) env h env' h'∧(K env' h').run=some r
 | [],i,env,h,E,F,N,V,O,K,ho,he,e=>by
   unfold qDC at e;obtain⟨c,e1⟩:=qG e;exact⟨q6B c,env,h,rfl,rfl,⟨he,ho,.refl _,fun _ _=>rfl,rfl⟩,e1⟩
 | o::l,i,env,h,E,F,N,V,O,K,ho,he,e=>by
   unfold qDC at e;obtain⟨zEJ,q1,q2,q3,q4⟩:=pV he e;unfold qIL j6
   rcases q4 with ⟨hw,e1⟩ | ⟨hw,e1⟩
   ·rw[hw];simp only;split at e1
    ·rename_i el t xs hsc;obtain⟨el',t',xs',hx,hpf,⟨f,args,ts,hop⟩,hcp⟩:=q88 ho q2 hsc;cases hx;rw[q1] at hpf hcp;obtain⟨c,e2⟩:=qG e1;rw[zNT] at c
     rcases run_ite e2 with ⟨z,e3⟩ | ⟨_,e3⟩
     ·have hcp:=hcp (qXG c.1 z);have c2:xG o (qC env) (qD h.l)=true:=zNW.2 fun x hx=>qP0 (zNW.1 c.2 x (by rw[q1];exact hx))
      have hfr:qDO o (qC env)=false:=by unfold qDO;rw[hpf]
      have zG3:okF o (qC env)=false:=by unfold okF okE;rw[hop,hfr];rfl
      have zG4:ndF o (qC env)=false:=by unfold ndF needs;rw[hop,hfr];rfl
      rw[sF hpf hcp c2];simp only[zG3,zG4,cond_false];unfold qBY;simp only[cond_false];have ih:=dH ht ho (vZ (d:=o.dst) (v:=.d (.list el t) xs) q2 (by simp[SV.ok])) e3;rw[kY,q1] at ih;exact zEQ (Q':=fun e p=>∃ env' h',e=qC env'∧p=qD h'.l∧Ends P ((o::l).map (·.dst)) env h env' h'∧(K env' h').run=some r) (fun e p ⟨env',h',b1,b2,b3,b4⟩=>⟨env',h',b1,b2,Ends.step q1 q3 (.refl _) b3,b4⟩) ih
     ·cases e3
    ·cases e1
    split at e1
    ·rename_i el t xs hsf;obtain⟨el',t',xs',hx,hpf⟩:=q8Q q2 hsf;cases hx;rw[q1] at hpf;obtain⟨c,e2⟩:=qG e1;rw[zNT] at c;obtain⟨p1,p2⟩:=qHS hpf
     rcases run_ite e2 with ⟨z,e3⟩ | ⟨z,e3⟩
     ·have z0:xs=[]:=zQH (zNU z);subst z0;have hfr:qDO o (qC env)=false:=by unfold qDO;rw[hpf];rfl
      have zG3:okF o (qC env)=false:=by unfold okF;rw[p1,hfr];rfl
      have zG4:ndF o (qC env)=false:=by unfold ndF;rw[p2,hfr];rfl
      rw[nN hpf (qXG c.1 rfl)];simp only[zG3,zG4,cond_false];unfold qBY;simp only[cond_false];have ih:=dH ht ho (vZ (d:=o.dst) (v:=.d (.list el t) []) q2 (by simp[SV.ok])) e3;rw[kY,q1] at ih;exact zEQ (Q':=fun e p=>∃ env' h',e=qC env'∧p=qD h'.l∧Ends P ((o::l).map (·.dst)) env h env' h'∧(K env' h').run=some r) (fun e p ⟨env',h',b1,b2,b3,b4⟩=>⟨env',h',b1,b2,Ends.step q1 q3 (.refl _) b3,b4⟩) ih
     ·rcases run_ite e3 with ⟨z2,e4⟩ | ⟨z2,e4⟩
      ·cases hn:xs.length with
       | zero=>rw[hn] at z;cases z
       | succ n =>
       rw[hn] at hpf;have hfr:qDO o (qC env)=true:=by unfold qDO;rw[hpf]
       have zG3:okF o (qC env)=true:=by unfold okF;rw[hfr,zRI]
       have zG4:ndF o (qC env)=true:=by unfold ndF;rw[hfr,zRI]
       have hRF:RF o (qH nm o.dst) (qC env)=[qH nm o.dst]:=by unfold RF;rw[hfr];rfl
       have hfo:=qXG c.1 z2;rw[hn] at hfo;rw[nN hpf hfo];simp only[zG3,zG4,hRF,cond_true];unfold qBY;simp only[cond_true];have hnw:=xE (k:=qH nm o.dst) (f:=fun v=>.list el true v v t xs) ho ⟨rfl,rfl,zBU c.1⟩;have ih:=dH ht hnw.2 (vZ (d:=o.dst) (v:=.own (qH nm o.dst) h.next xs.length) (qI hnw.1 q2) (wR rfl)) e4;rw[kY,q1] at ih;have ih2:=zEQ (Q':=fun e p=>∃ env' h',e=qC env'∧p=qD h'.l∧Ends P ((o::l).map (·.dst)) env h env' h'∧(K env' h').run=some r) (fun e p ⟨env',h',b1,b2,b3,b4⟩=>⟨env',h',b1,b2,Ends.step q1 q3 hnw.1 b3,b4⟩) ih
       have eO:qZH ((i,qJL [qH nm o.dst] (h.new (qH nm o.dst) fun v=>.list el true v v t xs).l)::O)=(i,bH [qH nm o.dst] (qD (h.new (qH nm o.dst) fun v=>.list el true v v t xs).l))::qZH O:=by
        show (i,qD (qJL _ _))::qZH O=_;rw[qCG]
       rw[eO] at ih2;simp only[SV.enc,hn] at ih2;exact⟨c.2,ih2⟩
      ·cases e4
    ·cases e1
    rename_i hsf;obtain⟨c,e2⟩:=qG e1;rw[zNT,zNT,zNT] at c;have hpf:pfr o (qC env)=none:=by rw[<-q1];exact qY8 c.1.1
    have hfr:qDO o (qC env)=false:=by unfold qDO;rw[hpf]
    have zG3:okF o (qC env)=okE o:=by unfold okF;rw[hfr,zRQ]
    have zG4:ndF o (qC env)=needs o.op:=by unfold ndF;rw[hfr,zRQ]
    have hRF:RF o (qH nm o.dst) (qC env)=RC o (qH nm o.dst) (qC env):=by unfold RF;rw[hfr];rfl
    obtain⟨v,h',a1,a2,a3⟩:=qH2 ht ho q2 e2;rw[q1] at a1;have c2:xG o (qC env) (qD h.l)=true:=zNW.2 fun x hx=>qP0 (zNW.1 c.2.1 x (by rw[q1];exact hx))
    rw[nX hpf (qY3 (by rw[<-q1];exact c.1.1)) a1 c.1.2 c2];simp only[zG3,zG4,hRF];have ih:=dH ht a2.2.1 (vZ (d:=o.dst) (qI a2.1 q2) a2.2.2) a3;rw[kY,q1] at ih;have ih2:=zEQ (Q':=fun e p=>∃ env' h',e=qC env'∧p=qD h'.l∧Ends P ((o::l).map (·.dst)) env h env' h'∧(K env' h').run=some r) (fun e p ⟨env',h',b1,b2,b3,b4⟩=>⟨env',h',b1,b2,Ends.step q1 q3 a2.1 b3,b4⟩) ih
    have eO:qZH (cond (okE o) ((i,qJL (RC o (qH nm o.dst) (qC env)) h'.l)::O) O)=cond (okE o) ((i,bH (RC o (qH nm o.dst) (qC env)) (qD h'.l))::qZH O) (qZH O):=by
     cases okE o with
     | false=>rfl
     | true =>
       show (i,qD (qJL _ _))::qZH O=_;rw[qCG];rfl
    rw[eO] at ih2;unfold qBY
    cases hn:needs o.op with
    | false=>rw[hn] at ih2;exact ih2
    | true =>
      have c3:=c.2.2;rw[hn] at c3 ih2;simp only[cond_true] at c3 ⊢;exact⟨c3,ih2⟩
   ·rw[hw];simp only;have ih:=dH ht ho (vZ (d:=o.dst) (v:=.tup []) q2 (by simp[SV.ok,okL])) e1;rw[kY,q1] at ih;simp only[SV.enc,qC] at ih;exact zEQ (fun e p ⟨env',h',b1,b2,b3,b4⟩=>⟨env',h',b1,b2,Ends.step q1 q3 (.refl _) b3,b4⟩) ih
def qN6 (ops:Array Oper):Bool:=match ops[ops.size - 1]? with
 | some o=>(match o.op with
   | .call ⟨.value _,_,_⟩=>(List.range (ops.size - 1)).all fun i=>vK (Region.before ops) i (ops.size - 1)
   | _=>false)
 | none=>false
def zCO {Γ:Type}(P:Program)(G:Nat->Bool)(T:z8)(CI:CIT)(Y:YI Γ)(nm:Nm)(ops:Array Oper)(d:Bool)(g:Γ)(env:List SV)(h:SH)(K:Γ->List SV->SH->zED R):zED R :=
 cond (gJ G ops) (cond d (cond (aD ops&&fU ops&&!(zC6 ops&&mV ops)) (cond (qN6 ops)
  (qVX P T nm (ops.toList.map (·.dst)) (dBo ops) env 0 (ops.toList.take (ops.size - 1)) env h [] [] [] [] fun env h=>qYM P T CI Y nm (ops.toList.map (·.dst)) (ops.toList.drop (ops.size - 1)) g env h K)
  (qVX P T nm (ops.toList.map (·.dst)) (dBo ops) env 0 ops.toList env h [] [] [] [] (K g))) (cond (mV ops) (qDC P T nm (ops.toList.map (·.dst)) (Region.before ops) env h 0 ops.toList env h [] [] [] [] [] (K g)) .fail)) (qYM P T CI Y nm (ops.toList.map (·.dst)) ops.toList g env h K)) .fail
variable {nat:xK}{good:FuncId->Bool}{rd:Bool}
theorem q6J [zEZ P G]{Γ:Type}{w:Wld Γ}{T:z8}{CI:CIT}{Y:YI Γ}(s:zE8 P good nat G tab)(ht:qP8 tab T)(hci:qT9 P G CI)(hy:YOk P G w Y){id:Nat}{ops:Array Oper}{d:Bool}{g:Γ}{K:Γ->List SV->SH->zED R}(ho:OkH P h)(he:okL h env)(e:(zCO P G T CI Y nm ops d g env h K).run=some r) :
 qX P G rd nm w (.region id ops d) g (qC env) (qD h.l) fun x g' pe ph=>x=.normal∧∃ env' h',pe=qC env'∧ph=qD h'.l∧Ends P (ops.toList.map (·.dst)) env h env' h'∧(K g' env' h').run=some r:=by
 unfold zCO at e;obtain⟨c1,e1⟩:=qG e
 cases d with
 | true =>
   cases hc2:(aD ops&&fU ops&&!(zC6 ops&&mV ops)) with
   | false =>
     rw[hc2] at e1;obtain⟨c3,e2⟩:=qG (show (cond (mV ops) (qDC P T nm (ops.toList.map (·.dst)) (Region.before ops) env h 0 ops.toList env h [] [] [] [] [] (K g)) .fail:zED R).run=some r from e1);refine (qX.of (s.zL3 (Q:=fun x pe ph=>x=.normal∧∃ env' h',pe=qC env'∧ph=qD h'.l∧Ends P (ops.toList.map (·.dst)) env h env' h'∧(K g env' h').run=some r) c1 c3 ?_)).mono ?_
     ·exact zEQ (fun e p hq=>⟨rfl,hq⟩) (dH (G:=G) (O:=[]) ht ho he e2)
     ·rintro x g' pe ph ⟨rfl,hq⟩;exact hq
   | true =>
   have c2:=hc2;rw[hc2] at e1
   have e2:(cond (qN6 ops)
    (qVX P T nm (ops.toList.map (·.dst)) (dBo ops) env 0 (ops.toList.take (ops.size - 1)) env h [] [] [] [] fun env h=>qYM P T CI Y nm (ops.toList.map (·.dst)) (ops.toList.drop (ops.size - 1)) g env h K)
    (qVX P T nm (ops.toList.map (·.dst)) (dBo ops) env 0 ops.toList env h [] [] [] [] (K g)):zED R).run=some r:=e1
   rw[zNT,zNT] at c2;have c2:=c2.1
   cases hlo:qN6 ops with
   | false =>
     rw[hlo] at e2;have e2:(qVX P T nm (ops.toList.map (·.dst)) (dBo ops) env 0 ops.toList env h [] [] [] [] (K g)).run=some r:=e2;refine (qX.of (s.zLX (Q:=fun x pe ph=>x=.normal∧∃ env' h',pe=qC env'∧ph=qD h'.l∧Ends P (ops.toList.map (·.dst)) env h env' h'∧(K g env' h').run=some r) c1 c2.1 c2.2 rfl rfl ?_)).mono ?_
     ·exact zEQ (fun e p hq=>⟨rfl,hq⟩) (qGH (G:=G) ht ho he e2)
     ·rintro x g' pe ph ⟨rfl,hq⟩;exact hq
   | true =>
     rw[hlo] at e2;have e2:(qVX P T nm (ops.toList.map (·.dst)) (dBo ops) env 0 (ops.toList.take (ops.size - 1)) env h [] [] [] [] fun env h=>qYM P T CI Y nm (ops.toList.map (·.dst)) (ops.toList.drop (ops.size - 1)) g env h K).run=some r:=e2;unfold qN6 at hlo;split at hlo
     ·rename_i o hop;split at hlo
      ·have hlt:=(zN6.1 hop).1
       have hdrop:ops.toList.drop (ops.size - 1)=[o]:=by
        have h1:ops.toList[ops.size - 1]?=some o:=by simpa using hop
        obtain⟨h2,h3⟩:=zN0.1 h1;rw[zQU h2,h3,List.drop_eq_nil_of_le (by simp;omega)]
       have hmap:(ops.toList.take (ops.size - 1)).map (·.dst)++[o.dst]=ops.toList.map (·.dst):=by
        rw[show [o.dst]=[o].map (·.dst) from rfl,<-zO0,<-hdrop,zRV]
       refine s.zL0 (inl:=q2A T) (n0:=ops.size - 1) c1 c2.1 c2.2 hop (by omega) (fun i hi=>zNW.1 hlo i (zQX.2 hi)) ?_;refine zEQ (fun e p hq=>?_) (qGH (G:=G) ht ho he e2);obtain⟨zEJ,h1,rfl,rfl,a3,a4⟩:=hq;rw[hdrop] at a4;refine kM (fun g2 e p hq=>?_) (qFK (G:=G) ht hci hy a3.2.1 a3.1 a4);obtain⟨zEX,h2,rfl,rfl,b3,b4⟩:=hq;refine⟨rfl,zEX,h2,rfl,rfl,⟨b3.1,b3.2.1,a3.2.2.1.trans b3.2.2.1,fun i hi=>?_,b3.2.2.2.2.trans a3.2.2.2.2⟩,b4⟩;rw[<-hmap,zOZ,not_or] at hi;exact (b3.2.2.2.1 i hi.2).trans (a3.2.2.2.1 i hi.1)
      ·cases hlo
     ·cases hlo
 | false=>exact s.zLZ c1 (kM (fun g e p hq=>⟨rfl,hq⟩) (qFK (G:=G) ht hci hy ho he e1))
end
end Go.Sv
