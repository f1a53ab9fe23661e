/- A symbolic run, part one. Conditions: none. -/
import Derived.Test.YtpnecffgnjijjaaGreatDoorPur23
set_option linter.all false
namespace Go.Sv
open Go.Idl
variable {el:TypeId}{j n off:Nat}{k:IntKind}
class Yl where
 l:Nat
variable [Gc]
variable {P:Program}{Z Z':Nat->Prop}{H:IH}{M:Nat->Option (Nat×PO)}
inductive Ty where
 | int (k:IntKind)
 | bool
 | str
 | unit
 | list (el:TypeId) (t:Ty)
 | pair (a b:Ty)
 | raw
 | ol (el:TypeId) (k:IntKind)
 | nif
 | fnv (g:FuncId) deriving DecidableEq
@[reducible] def Ty.sem:Ty->Type
  | .int _=>Int
  | .bool=>Bool
  | .str=>ByteArray
  | .unit=>Unit
  | .list _ t=>List t.sem
  | .pair a b=>a.sem×b.sem
  | .raw=>List (Value×Value)
  | .ol _ _=>List Int
  | .nif=>Unit
  | .fnv _=>Unit
def dN (l:List (Value×Value)):List FV:=List.flatMap (fun p=>[.v p.1,.v p.2]) l
def fvo (el:TypeId)(k:IntKind):List Int->FV
 | []=>.v (.slice none 0 0)
 | x::xs=>.l el (xs.length+1) (List.flatMap (fun i=>[FV.v (.int k i)]) (x::xs))
def Ty.cells:(t:Ty)->t.sem->List FV
 | .int k,x=>[.v (.int k x)]
 | .bool,x=>[.v (.bool x)]
 | .str,x=>[.v (.string x)]
 | .unit,_=>[]
 | .list el t,xs=>[.l el (List.length xs) (List.flatMap t.cells xs)]
 | .pair a b,x=>a.cells x.1++b.cells x.2
 | .raw,xs=>[.l 1000000001 (List.length xs) (dN xs)]
 | .ol el k,xs=>[fvo el k xs]
 | .nif,_=>[.v .nilIface]
 | .fnv g,_=>[.v (.func (.func g) #[] #[])]
def Ty.w:Ty->Nat
 | .int _ | .bool | .str | .list _ _ | .raw | .ol _ _ | .nif | .fnv _=>1
 | .unit=>0
 | .pair a b=>a.w+b.w
def Ty.nol:Ty->Bool
 | .ol _ _=>false
 | .pair a b=>a.nol&&b.nol
 | _=>true
def Ty.one:Ty->Bool
 | .unit=>false
 | .pair _ _=>false
 | _=>true
def Ty.fv:(t:Ty)->t.sem->FV
 | .int k,x=>.v (.int k x)
 | .bool,x=>.v (.bool x)
 | .str,x=>.v (.string x)
 | .list el t,xs=>.l el (List.length xs) (List.flatMap t.cells xs)
 | .raw,xs=>.l 1000000001 (List.length xs) (dN xs)
 | .ol el k,xs=>fvo el k xs
 | .nif,_=>.v .nilIface
 | .fnv g,_=>.v (.func (.func g) #[] #[])
 | _,_=>.v undef
theorem Ty.cells_one:∀ {t:Ty} {x:t.sem},t.one=true->t.cells x=[t.fv x]
 | .int _,_,_=>rfl
 | .bool,_,_=>rfl
 | .str,_,_=>rfl
 | .list _ _,_,_=>rfl
 | .raw,_,_=>rfl
 | .ol _ _,_,_=>rfl
 | .nif,_,_=>rfl
 | .fnv _,_,_=>rfl
 | .unit,_,h=>by cases h
 | .pair _ _,_,h=>by cases h
theorem Ty.zFJ:∀ (t:Ty) (x:t.sem),(t.cells x).length=t.w
 | .int _,_=>rfl
 | .bool,_=>rfl
 | .str,_=>rfl
 | .list _ _,_=>rfl
 | .raw,_=>rfl
 | .ol _ _,_=>rfl
 | .nif,_=>rfl
 | .fnv _,_=>rfl
 | .unit,_=>rfl
 | .pair a b,x=>by
   show (a.cells x.1++b.cells x.2).length=a.w+b.w;rw[zNK,a.zFJ,b.zFJ]
theorem zU {t:Ty}:∀ (xs:List t.sem),(xs.flatMap t.cells).length=xs.length*t.w
 | []=>by simp
 | x::xs=>by rw[zNQ,zNK,t.zFJ,zU xs,zNZ,zPS,zPR]
theorem gL {t:Ty}:∀ (xs:List t.sem) (j:Nat),(xs.flatMap t.cells).drop (j*t.w)=(xs.drop j).flatMap t.cells
 | xs,0=>by simp
 | [],j+1=>by simp
 | x::xs,j+1=>by
   rw[zNQ,List.drop_succ_cons,<-gL xs j,zPS,zPR,<-zQT]
   congr 1
   rw[List.drop_append_of_le_length (by rw[t.zFJ];exact zM0 _),zQX (by rw[t.zFJ];exact zM0 _),zQC]
theorem gI {t:Ty}:∀ (xs:List t.sem) (j:Nat),(xs.flatMap t.cells).take (j*t.w)=(xs.take j).flatMap t.cells
 | xs,0=>by simp
 | [],j+1=>by simp
 | x::xs,j+1=>by
   rw[zNQ,zO2,zNQ,<-gI xs j,zPS,zPR,List.take_append,t.zFJ,zQU,zNR (by rw[t.zFJ];omega)]
theorem qU4 {t:Ty}{xs:List t.sem}{x:t.sem}(h:xs[j]?=some x):((xs.flatMap t.cells).drop (j*t.w)).take t.w=t.cells x:=by
 rw[gL]
 have hj:=(zM6.1 h)
 obtain⟨hl,hx⟩:=hj;rw[zP0 hl,hx,zNQ,List.take_append_of_le_length (by rw[t.zFJ];exact zM0 _),zNR (by rw[t.zFJ];exact zM0 _)]
theorem qKO {t:Ty}{xs:List t.sem}{x:t.sem}(h:xs[j]?=some x)(hn:off+n<=t.w):((xs.flatMap t.cells).drop (j*t.w+off)).take n=((t.cells x).drop off).take n:=by
 rw[<-qU4 h,List.drop_take,zQT,zQD,zOP (by omega)]
theorem flat_get {t:Ty}{xs:List t.sem}{x:t.sem}(h:xs[j]?=some x)(hn:off < t.w):(xs.flatMap t.cells)[j*t.w+off]?=(t.cells x)[off]?:=by
 rw[<-qU4 h,zOO,if_pos hn,zOQ]
theorem qG1 {t:Ty}{xs:List t.sem}{x:t.sem}(h:xs[j]?=some x)(hn:off+n<=t.w):j*t.w+off+n<=(xs.flatMap t.cells).length:=by
 have hl:=(zM6.1 h).1;rw[zU];have:(j+1)*t.w<=xs.length*t.w:=zN4 _ hl;rw[zPS] at this;omega
theorem qK4:∀ (xs ys:List (Value×Value)),dN xs=dN ys->xs=ys
 | [],[],_=>rfl
 | [],y::ys,h=>by cases h
 | x::xs,[],h=>by cases h
 | x::xs,y::ys,h=>by
   have h:FV.v x.1::FV.v x.2::dN xs=FV.v y.1::FV.v y.2::dN ys:=h;injection h with h1 h2;injection h2 with h2 h3;injection h1 with h1;injection h2 with h2;rw[qK4 xs ys h3,Prod.ext h1 h2]
theorem qA1:∀ (xs:List (Value×Value)),(dN xs).length=2*xs.length
 | []=>rfl
 | x::xs=>by
   show (dN xs).length+2=_;rw[qA1 xs,zNZ];omega
theorem qQE:∀ (xs ys:List (Value×Value)) (vs:List Value),FRL Z H (dN xs) vs->FRL Z' H (dN ys) vs->xs=ys
 | [],[],_,_,_=>rfl
 | [],y::ys,vs,a,b=>by have:=a.len;have:=b.len;simp[dN] at *;omega
 | x::xs,[],vs,a,b=>by have:=a.len;have:=b.len;simp[dN] at *;omega
 | x::xs,y::ys,vs,a,b=>by
   have a:FRL Z H (FV.v x.1::FV.v x.2::dN xs) vs:=a;have b:FRL Z' H (FV.v y.1::FV.v y.2::dN ys) vs:=b;obtain⟨v,vs',rfl,a1,a2⟩:=a.zFD;obtain⟨v',vs2,e,b1,b2⟩:=b.zFD;cases e;obtain⟨w,vs3,rfl,a3,a4⟩:=a2.zFD;obtain⟨w',vs4,e,b3,b4⟩:=b2.zFD;cases e;have e1:=(qLF a1).symm.trans (qLF b1);have e2:=(qLF a3).symm.trans (qLF b3);rw[qQE xs ys _ a4 b4,Prod.ext e1 e2]
theorem qPH {k:IntKind}:∀ (xs ys:List Int),List.flatMap (fun i=>[FV.v (.int k i)]) xs=List.flatMap (fun i=>[FV.v (.int k i)]) ys->xs=ys
 | [],[],_=>rfl
 | [],y::ys,h=>by simp at h
 | x::xs,[],h=>by simp at h
 | x::xs,y::ys,h=>by
   have h:FV.v (.int k x)::List.flatMap (fun i=>[FV.v (.int k i)]) xs=FV.v (.int k y)::List.flatMap (fun i=>[FV.v (.int k i)]) ys:=h;injection h with h1 h2;injection h1 with h1;injection h1 with _ h1;rw[h1,qPH xs ys h2]
theorem qN2 (xs:List Int):(List.flatMap (fun i=>[FV.v (.int k i)]) xs).length=xs.length:=by
 induction xs with
 | nil=>rfl
 | cons x xs ih=>rw[zNQ,zNK,ih];simp;omega
theorem qJB {k:IntKind}:∀ (xs ys:List Int) (vs:List Value),FRL Z H (List.flatMap (fun i=>[FV.v (.int k i)]) xs) vs->FRL Z' H (List.flatMap (fun i=>[FV.v (.int k i)]) ys) vs->xs=ys
 | [],[],_,_,_=>rfl
 | [],y::ys,vs,a,b=>by have:=a.len;have:=b.len;simp at *;omega
 | x::xs,[],vs,a,b=>by have:=a.len;have:=b.len;simp at *;omega
 | x::xs,y::ys,vs,a,b=>by
   have a:FRL Z H (FV.v (.int k x)::List.flatMap (fun i=>[FV.v (.int k i)]) xs) vs:=a;have b:FRL Z' H (FV.v (.int k y)::List.flatMap (fun i=>[FV.v (.int k i)]) ys) vs:=b;obtain⟨v,vs',rfl,a1,a2⟩:=a.zFD;obtain⟨v',vs2,e,b1,b2⟩:=b.zFD;cases e;have e1:=(qLF a1).symm.trans (qLF b1);injection e1 with _ e1;rw[qJB xs ys _ a2 b2,e1]
theorem q5J:∀ {xs ys:List Int},fvo el k xs=fvo el k ys->xs=ys
 | [],[],_=>rfl
 | [],_::_,h=>by cases h
 | _::_,[],h=>by cases h
 | x::xs,y::ys,h=>by
   injection h with _ _ h;exact qPH _ _ h
theorem q18 {v:Value}:∀ {xs ys:List Int},FR Z H (fvo el k xs) v->FR Z' H (fvo el k ys) v->xs=ys
 | [],[],_,_=>rfl
 | [],_::_,a,b=>by have:=qLF a;subst this;cases b
 | _::_,[],a,b=>by have:=qLF b;subst this;cases a
 | x::xs,y::ys,a,b=>by
   obtain⟨h1,ws,ws',h2,h3,h4⟩:=mZ a b;have:=h4 (by rw[qN2,qN2];simpa using h1);subst this;exact qJB _ _ ws h2 h3
theorem Ty.inj:∀ (t:Ty) (x y:t.sem),t.cells x=t.cells y->x=y
 | .int _,x,y,h=>by injection h with h;injection h with h;injection h
 | .bool,x,y,h=>by injection h with h;injection h with h;injection h
 | .str,x,y,h=>by injection h with h;injection h with h;injection h
 | .unit,_,_,_=>rfl
 | .nif,_,_,_=>rfl
 | .fnv _,_,_,_=>rfl
 | .ol el k,xs,ys,h=>by
   injection h with h;exact q5J h
 | .raw,xs,ys,h=>by
   injection h with h;injection h with _ h1 h2;exact qK4 _ _ h2
 | .pair a b,x,y,h=>by
   have:=List.append_inj (show a.cells x.1++b.cells x.2=a.cells y.1++b.cells y.2 from h) (by rw[a.zFJ,a.zFJ]);exact Prod.ext (a.inj _ _ this.1) (b.inj _ _ this.2)
 | .list el t,xs,ys,h=>by
   injection h with h;injection h with _ h1 h2;exact go t xs ys h1 h2
where
 go (t:Ty):∀ (xs ys:List t.sem),xs.length=ys.length->xs.flatMap t.cells=ys.flatMap t.cells->xs=ys
 | [],[],_,_=>rfl
 | [],y::ys,e,h=>by cases e
 | x::xs,[],e,h=>by cases e
 | x::xs,y::ys,e,h=>by
   rw[zNQ,zNQ] at h;have:=List.append_inj h (by rw[t.zFJ,t.zFJ]);rw[t.inj x y this.1,go t xs ys (by simpa using e) this.2]
theorem Ty.uniq:∀ (t:Ty) {x y:t.sem} {vs:List Value},FRL Z H (t.cells x) vs->FRL Z' H (t.cells y) vs->x=y
 | .int k,x,y,vs,a,b=>by
   obtain⟨v,vs',rfl,a1,_⟩:=a.zFD;obtain⟨v',vs2,e,b1,_⟩:=b.zFD;cases e;have:=(qLF a1).symm.trans (qLF b1);injection this
 | .bool,x,y,vs,a,b=>by
   obtain⟨v,vs',rfl,a1,_⟩:=a.zFD;obtain⟨v',vs2,e,b1,_⟩:=b.zFD;cases e;have:=(qLF a1).symm.trans (qLF b1);injection this
 | .str,x,y,vs,a,b=>by
   obtain⟨v,vs',rfl,a1,_⟩:=a.zFD;obtain⟨v',vs2,e,b1,_⟩:=b.zFD;cases e;have:=(qLF a1).symm.trans (qLF b1);injection this
 | .unit,_,_,_,_,_=>rfl
 | .nif,_,_,_,_,_=>rfl
 | .fnv _,_,_,_,_,_=>rfl
 | .ol el k,xs,ys,vs,a,b=>by
   obtain⟨v,vs',rfl,a1,_⟩:=a.zFD;obtain⟨v',vs2,e,b1,_⟩:=b.zFD;cases e;exact q18 a1 b1
 | .raw,xs,ys,vs,a,b=>by
   obtain⟨v,vs',rfl,a1,_⟩:=a.zFD;obtain⟨v',vs2,e,b1,_⟩:=b.zFD;cases e;obtain⟨h1,ws,ws',h2,h3,h4⟩:=mZ a1 b1;have:=h4 (by rw[qA1,qA1,h1]);subst this;exact qQE xs ys ws h2 h3
 | .pair s t,x,y,vs,a,b=>by
   obtain⟨a1,a2⟩:=FRL.split (xs:=s.cells x.1) (ys:=t.cells x.2) a;obtain⟨b1,b2⟩:=FRL.split (xs:=s.cells y.1) (ys:=t.cells y.2) b;rw[s.zFJ] at a1 a2 b1 b2;exact Prod.ext (s.uniq a1 b1) (t.uniq a2 b2)
 | .list el t,xs,ys,vs,a,b=>by
   obtain⟨v,vs',rfl,a1,_⟩:=a.zFD;obtain⟨v',vs2,e,b1,_⟩:=b.zFD;cases e;obtain⟨h1,ws,ws',h2,h3,h4⟩:=mZ a1 b1;have:=h4 (by rw[zU,zU,h1]);subst this;exact go t xs ys ws h1 h2 h3
where
 go (t:Ty):∀ (xs ys:List t.sem) (vs:List Value),xs.length=ys.length->FRL Z H (xs.flatMap t.cells) vs->FRL Z' H (ys.flatMap t.cells) vs->xs=ys
 | [],[],_,_,_,_=>rfl
 | [],y::ys,vs,e,a,b=>by cases e
 | x::xs,[],vs,e,a,b=>by cases e
 | x::xs,y::ys,vs,e,a,b=>by
   rw[zNQ] at a b;obtain⟨a1,a2⟩:=a.split;obtain⟨b1,b2⟩:=b.split;rw[t.zFJ] at a1 a2 b1 b2;rw[t.uniq a1 b1,go t xs ys _ (by simpa using e) a2 b2]
def Ty.pv (t:Ty)(x:t.sem):PV:=cond t.one (.f (t.fv x)) (.agg ((t.cells x).map .f))
def Ty.en (t:Ty):PEn t.sem:=⟨t.pv,fun x y h=>by
 unfold Ty.pv at h
 cases ht:t.one with
 | true =>
   rw[ht] at h;injection h with h;exact t.inj x y (by rw[Ty.cells_one ht,Ty.cells_one ht,h])
 | false =>
   rw[ht] at h;injection h with h
   exact t.inj x y (zA6 _ _ h),fun P Z Z' H x y v a b=>by
 unfold Ty.pv at a b
 cases ht:t.one with
 | true =>
   rw[ht] at a b
   cases a with
   | f a=>cases b with
     | f b=>exact t.uniq (vs:=[v]) (by rw[Ty.cells_one ht];exact .cons a ⟨rfl,fun i x v h=>by simp at h⟩) (by rw[Ty.cells_one ht];exact .cons b ⟨rfl,fun i x v h=>by simp at h⟩)
 | false =>
   rw[ht] at a b;obtain⟨vs,rfl,h1⟩:=VR.zHT a;obtain⟨vs',e,h2⟩:=VR.zHT b;cases e
   exact t.uniq (qBR h1) (qBR h2)⟩
@[reducible] def TyL:List Ty->Type
  | []=>Unit
  | [t]=>t.sem
  | t::u::ts=>t.sem×TyL (u::ts)
def pvL:(ts:List Ty)->TyL ts->List PV
 | [],_=>[]
 | [t],x=>[t.pv x]
 | t::u::ts,x=>t.pv x.1::pvL (u::ts) x.2
theorem qXL:∀ (ts:List Ty) (x y:TyL ts),pvL ts x=pvL ts y->x=y
 | [],_,_,_=>rfl
 | [t],x,y,h=>by injection h with h;exact t.en.inj x y h
 | t::u::ts,x,y,h=>by
   injection h with h1 h2;exact Prod.ext (t.en.inj _ _ h1) (qXL (u::ts) _ _ h2)
theorem qPP:∀ (ts:List Ty) (x y:TyL ts) (vs:List Value),VRL P Z H (fun _=>none) (pvL ts x) vs->VRL P Z' H (fun _=>none) (pvL ts y) vs->x=y
 | [],_,_,_,_,_=>rfl
 | [t],x,y,vs,a,b=>by
   obtain⟨v,vs',rfl,a1,_⟩:=a.zFD;obtain⟨v',vs2,e,b1,_⟩:=b.zFD;cases e;exact t.en.uniq P Z Z' H x y v a1 b1
 | t::u::ts,x,y,vs,a,b=>by
   obtain⟨v,vs',rfl,a1,a2⟩:=a.zFD;obtain⟨v',vs2,e,b1,b2⟩:=b.zFD;cases e;exact Prod.ext (t.en.uniq P Z Z' H _ _ v a1 b1) (qPP (u::ts) _ _ _ a2 b2)
def enL (ts:List Ty):AEn (TyL ts):=⟨pvL ts,qXL ts,fun P Z Z' H x y vs a b=>qPP ts x y vs a b⟩
def kY:(ts:List Ty)->TyL ts->PV:=fun ts x=>qDC (pvL ts x)
end Go.Sv
namespace Go.Sv
open Go.Idl
variable [Gc]
variable {P:Program}
variable {b:Bool}{k:Nat}
def zE9 (R:Type):Type:=Option R
section
variable {R α σ ρ:Type}
def zE9.run (t:zE9 R):Option R:=t
def zE9.fail:zE9 R:=(none:Option R)
def zE9.ret (r:R):zE9 R:=some r
def zE9.ite (b:Bool)(x y:zE9 R):zE9 R:=cond b x y
noncomputable def zE9.bind (o:Option α)(k:α->zE9 R):zE9 R:=Option.rec zE9.fail k o
open Classical in
noncomputable def qIC (x y:Option R):Option R:=if x=y then x else none
noncomputable def zE9.both (x y:zE9 R):zE9 R:=zE9.bind (qIC x y) .ret
noncomputable def zE9.loop (f:σ->zE9 (σ⊕ρ))(s:σ)(k:ρ->zE9 R):zE9 R:=zE9.bind (zG (fun s=>(f s).run) s) k
end
theorem run_ite {R:Type}{x y:zE9 R}{r:R}(h:(zE9.ite b x y).run=some r):(b=true∧x.run=some r)∨(b=false∧y.run=some r):=by
 cases b with
 | true=>exact .inl ⟨rfl,h⟩
 | false=>exact .inr ⟨rfl,h⟩
theorem run_bind {R α:Type}{o:Option α}{k:α->zE9 R}{r:R}(h:(zE9.bind o k).run=some r):∃ a,o=some a∧(k a).run=some r:=by
 cases o with
 | none=>cases h
 | some a=>exact⟨a,rfl,h⟩
theorem qQO {R σ ρ:Type}{f:σ->zE9 (σ⊕ρ)}{s:σ}{k:ρ->zE9 R}{r:R}(h:(zE9.loop f s k).run=some r):∃ a,zG (fun s=>(f s).run) s=some a∧(k a).run=some r:=run_bind h
theorem qV0 {R:Type}{x y:Option R}{r:R}(h:qIC x y=some r):x=some r∧y=some r:=by
 unfold qIC at h;split at h
 ·rename_i e;exact⟨h,e ▸ h⟩
 ·cases h
theorem q1K {R:Type}{x y:zE9 R}{r:R}(h:(zE9.both x y).run=some r):x.run=some r∧y.run=some r:=by
 obtain⟨a,h1,h2⟩:=run_bind h;cases h2;exact qV0 h1
theorem qSL {R:Type}(x:Option R):qIC x x=x:=by unfold qIC;rw[if_pos rfl]
theorem qF {R:Type}{x:zE9 R}{r:R}(h:(cond b x .fail).run=some r):b=true∧x.run=some r:=by
 cases b with
 | true=>exact⟨rfl,h⟩
 | false=>cases h
inductive SV where
 | d (t:Ty) (x:t.sem)
 | c (v:Value)
 | agg (l:List SV)
 | tup (l:List SV)
 | own (k g n:Nat)
 | sl (k g n o m:Nat)
 | ref (k off w:Nat)
 | elt (k g n w j off:Nat)
 | lp (t:Ty) (xs:List t.sem) (j off:Nat)
 | fn (f:FuncId) (first cap:List SV)
 | unk
 | yv
 | bq
 | mp (k:Nat)
 | opt (b:Bool) (k off w:Nat)
 | rfx (k off w:Nat)
 | etx (k g n w j off:Nat)
 | asl (el:TypeId) (k w n:Nat)
section
variable [Yl]
mutual
def SV.enc:SV->PV
 | .d t x=>.f (t.fv x)
 | .c v=>fvv v
 | .agg l=>.agg (qB l)
 | .tup l=>.tup (qB l)
 | .own k _ n=>.own k n 0 n
 | .sl k _ n o m=>.own k n o m
 | .ref k off w=>.ref k w off
 | .elt k _ n w j off=>.ref k (n*w) (j*w+off)
 | .lp t xs j off=>.lp (List.flatMap t.cells xs) (j*t.w+off)
 | .fn f a b=>.fn f (qB a) (qB b)
 | .unk=>.unk
 | .yv=>.yl Yl.l
 | .bq=>.bq
 | .mp k=>.mp k
 | .opt b k off w=>cond b (.ref k w off) (fvv (.pointer none))
 | .rfx k off w=>.ref k w off
 | .etx k _ n w j off=>.ref k (n*w) (j*w+off)
 | .asl el k _ n=>.asl el k n
def qB:List SV->List PV
 | []=>[]
 | x::l=>x.enc::qB l
end
theorem zD:∀ (l:List SV),qB l=l.map SV.enc
 | []=>by simp[qB]
 | x::l=>by simp[qB,zD l]
end
inductive SpO where
 | map (es:List (Value×Value))
 | iter (s:ByteArray) (pos:Nat)
 | mit (t:TypeId) (k since last:Nat) (seen:List Nat)
 | arr (el:TypeId) (k:IntKind) (xs:List Int)
def xU:Nat->List (Value×Value)->List MapEntry
 | _,[]=>[]
 | i,p::l=>⟨p.1,p.2,i⟩::xU (i+1) l
def SpO.enc:SpO->PO
 | .map es=>⟨1000000001,false,wQ (List.length es) (xU 0 es)⟩
 | .iter s pos=>⟨1000000000,false,aD s pos⟩
 | .mit _ k since last seen=>⟨1000000002,false,qC8 (.mp k) since last seen⟩
 | .arr el k xs=>⟨el,false,xs.map fun x=>fvv (.int k x)⟩
inductive SO where
 | spc (w:Nat) (x:SpO)
 | cells (el:TypeId) (w:Nat) (l:List SV)
 | list (el:TypeId) (gr:Bool) (g w:Nat) (t:Ty) (xs:List t.sem)
section
variable [Yl]
def SO.enc:SO->PO
 | .cells el _ l=>⟨el,false,qB l⟩
 | .list el gr _ _ t xs=>⟨el,gr,(List.flatMap t.cells xs).map .f⟩
 | .spc _ x=>x.enc
def SO.w:SO->Nat
 | .cells _ w _=>w
 | .list _ _ _ w _ _=>w
 | .spc w _=>w
structure SH where
 next:Nat
 l:List (Nat×SO)
def slk (k:Nat):List (Nat×SO)->Option SO
 | []=>none
 | (j,o)::l=>cond (k==j) (some o) (slk k l)
def sst (k:Nat)(o:SO):List (Nat×SO)->List (Nat×SO)
 | []=>[]
 | (j,p)::l=>cond (k==j) ((j,o)::l) ((j,p)::sst k o l)
def sdl (k:Nat):List (Nat×SO)->List (Nat×SO)
 | []=>[]
 | (j,p)::l=>cond (k==j) (sdl k l) ((j,p)::sdl k l)
def qD:List (Nat×SO)->PHp
 | []=>[]
 | (j,o)::l=>(j,o.enc)::qD l
theorem vC (k:Nat):∀ (l:List (Nat×SO)),qA k (qD l)=(slk k l).map SO.enc
 | []=>rfl
 | (j,o)::l=>by
   show cond (k==j) (some o.enc) (qA k (qD l))=(cond (k==j) (some o) (slk k l)).map SO.enc;cases k==j
   ·exact vC k l
   ·rfl
theorem xG (k:Nat)(o:SO):∀ (l:List (Nat×SO)),qD (sst k o l)=xL k o.enc (qD l)
 | []=>rfl
 | (j,p)::l=>by
   show qD (cond (k==j) ((j,o)::l) ((j,p)::sst k o l))=cond (k==j) ((j,o.enc)::qD l) ((j,p.enc)::xL k o.enc (qD l));cases k==j
   ·show (j,p.enc)::qD (sst k o l)=_;rw[xG k o l];rfl
   ·rfl
theorem fF (k:Nat):∀ (l:List (Nat×SO)),qD (sdl k l)=nN k (qD l)
 | []=>rfl
 | (j,p)::l=>by
   show qD (cond (k==j) (sdl k l) ((j,p)::sdl k l))=cond (k==j) (nN k (qD l)) ((j,p.enc)::nN k (qD l));cases k==j
   ·show (j,p.enc)::qD (sdl k l)=_;rw[fF k l];rfl
   ·exact fF k l
end
theorem qEC {k j:Nat}{o:SO}(hj:j≠k):∀ (l:List (Nat×SO)),slk j (sst k o l)=slk j l
 | []=>rfl
 | (i,p)::l=>by
   show slk j (cond (k==i) ((i,o)::l) ((i,p)::sst k o l))=cond (j==i) (some p) (slk j l)
   cases h:k==i with
   | true =>
     have:k=i:=by simpa using h
     subst this;show cond (j==k) (some o) (slk j l)=_;rw[show (j==k)=false by simpa using hj];rfl
   | false =>
     show cond (j==i) (some p) (slk j (sst k o l))=_;rw[qEC hj l]
theorem qUI {k:Nat}{o p:SO}:∀ {l:List (Nat×SO)},slk k l=some p->slk k (sst k o l)=some o
 | (i,q)::l,h=>by
   have h:cond (k==i) (some q) (slk k l)=some p:=h;show slk k (cond (k==i) ((i,o)::l) ((i,q)::sst k o l))=some o
   cases hi:k==i with
   | true =>
     show cond (k==i) (some o) (slk k l)=some o;rw[hi];rfl
   | false =>
     rw[hi] at h;show cond (k==i) (some q) (slk k (sst k o l))=some o;rw[hi];exact qUI (l:=l) h
theorem kM {k j:Nat}(hj:j≠k):∀ (l:List (Nat×SO)),slk j (sdl k l)=slk j l
 | []=>rfl
 | (i,p)::l=>by
   show slk j (cond (k==i) (sdl k l) ((i,p)::sdl k l))=cond (j==i) (some p) (slk j l)
   cases h:k==i with
   | true =>
     have:k=i:=by simpa using h
     subst this;rw[show (j==k)=false by simpa using hj];exact kM hj l
   | false =>
     show cond (j==i) (some p) (slk j (sdl k l))=_;rw[kM hj l]
theorem qLZ (k:Nat):∀ (l:List (Nat×SO)),slk k (sdl k l)=none
 | []=>rfl
 | (i,p)::l=>by
   show slk k (cond (k==i) (sdl k l) ((i,p)::sdl k l))=none
   cases h:k==i with
   | true=>exact qLZ k l
   | false =>
     show cond (k==i) (some p) (slk k (sdl k l))=none;rw[h];exact qLZ k l
theorem yC {j:Nat}{o:SO}{l:List (Nat×SO)}(hj:j≠k):slk j ((k,o)::l)=slk j l:=by
 show cond (j==k) (some o) (slk j l)=_;rw[show (j==k)=false by simpa using hj];rfl
theorem kU {o:SO}{l:List (Nat×SO)}:slk k ((k,o)::l)=some o:=by
 show cond (k==k) (some o) (slk k l)=_;simp
def qXO (h:SH)(k g n:Nat):Prop:=g < h.next∧∀ el gr w t xs,slk k h.l=some (.list el gr g w t xs)->n=xs.length
mutual
def SV.ok (h:SH):SV->Prop
 | .agg l=>okL h l
 | .tup l=>okL h l
 | .own k g n=>qXO h k g n
 | .sl k g n o m=>qXO h k g n∧o+m<=n
 | .elt k g n _ _ _=>qXO h k g n
 | .etx k g n _ _ _=>qXO h k g n
 | .fn _ a b=>okL h a∧okL h b
 | .asl _ k w n=>w < h.next∧∀ ob,slk k h.l=some ob->ob.w=w->∃ el ik,∃ xs:List Int,ob=.spc w (.arr el ik xs)∧n=xs.length
 | _=>True
def okL (h:SH):List SV->Prop
 | []=>True
 | x::l=>x.ok h∧okL h l
end
theorem zK {h:SH}:∀ {l:List SV},okL h l ↔ ∀ x∈l,x.ok h
 | []=>by simp[okL]
 | x::l=>by simp[okL,zK (l:=l)]
structure OkH (P:Program) (h:SH):Prop where
 ver:∀ k ob,slk k h.l=some ob->ob.w < h.next
 cells:∀ k el w l,slk k h.l=some (.cells el w l)->okL h l
 list:∀ k el gr g w t xs,slk k h.l=some (.list el gr g w t xs)->g < h.next∧szT P el=some t.w∧0 < t.w
structure Keep (h h':SH):Prop where
 next:h.next<=h'.next
 same:∀ k ob,slk k h'.l=some ob->ob.w < h.next->slk k h.l=some ob
 len:∀ k el gr g w t xs,slk k h'.l=some (.list el gr g w t xs)->g < h.next->∃ w0,∃ xs0:List t.sem,slk k h.l=some (.list el gr g w0 t xs0)∧xs0.length=xs.length
theorem Keep.refl (h:SH):Keep h h:=⟨zM0 _,fun _ _ h _=>h,fun k el gr g w t xs h _=>⟨w,xs,h,rfl⟩⟩
theorem Keep.trans {a b c:SH}(x:Keep a b)(y:Keep b c):Keep a c :=
 ⟨zNP x.next y.next,fun k ob h hw=>x.same k ob (y.same k ob h (zM4 hw x.next)) hw,fun k el gr g w t xs h hg=>by
   obtain⟨w1,xs1,h1,e1⟩:=y.len k el gr g w t xs h (zM4 hg x.next);obtain⟨w2,xs2,h2,e2⟩:=x.len k el gr g w1 t xs1 h1 hg
   exact⟨w2,xs2,h2,e2.trans e1⟩⟩
theorem qXO.keep {h h':SH}{g n:Nat}(a:qXO h k g n)(b:Keep h h'):qXO h' k g n :=
 ⟨zM4 a.1 b.next,fun el gr w t xs hk=>by
   obtain⟨w0,xs0,h0,e0⟩:=b.len k el gr g w t xs hk a.1
   rw[<-e0];exact a.2 el gr w0 t xs0 h0⟩
mutual
theorem SV.ok.keep {h h':SH}(b:Keep h h'):∀ {x:SV},x.ok h->x.ok h'
 | .agg l,a=>by simp only[SV.ok] at a ⊢;exact qI b a
 | .tup l,a=>by simp only[SV.ok] at a ⊢;exact qI b a
 | .own k g n,a=>by simp only[SV.ok] at a ⊢;exact a.keep b
 | .sl k g n o m,a=>by simp only[SV.ok] at a ⊢;exact⟨a.1.keep b,a.2⟩
 | .elt k g n w j off,a=>by simp only[SV.ok] at a ⊢;exact a.keep b
 | .etx k g n w j off,a=>by simp only[SV.ok] at a ⊢;exact a.keep b
 | .fn f x y,a=>by simp only[SV.ok] at a ⊢;exact⟨qI b a.1,qI b a.2⟩
 | .d _ _,_=>by simp[SV.ok]
 | .c _,_=>by simp[SV.ok]
 | .ref _ _ _,_=>by simp[SV.ok]
 | .lp _ _ _ _,_=>by simp[SV.ok]
 | .unk,_=>by simp[SV.ok]
 | .yv,_=>by simp[SV.ok]
 | .bq,_=>by simp[SV.ok]
 | .mp _,_=>by simp[SV.ok]
 | .opt _ _ _ _,_=>by simp[SV.ok]
 | .rfx _ _ _,_=>by simp[SV.ok]
 | .asl el k w n,a=>by
   simp only[SV.ok] at a ⊢;exact⟨zM4 a.1 b.next,fun ob ho hw=>a.2 ob (b.same k ob ho (by rw[hw];exact a.1)) hw⟩
theorem qI {h h':SH}(b:Keep h h'):∀ {l:List SV},okL h l->okL h' l
 | [],_=>by simp[okL]
 | x::l,a=>by simp only[okL] at a ⊢;exact⟨SV.ok.keep b a.1,qI b a.2⟩
end
def SH.new (h:SH)(k:Nat)(f:Nat->SO):SH:=⟨h.next+1,(k,f h.next)::h.l⟩
def SH.put (h:SH)(k:Nat)(f:Nat->SO):SH:=⟨h.next+1,sst k (f h.next) h.l⟩
def SH.del (h:SH)(k:Nat):SH:=⟨h.next,sdl k h.l⟩
def zA3 (P:Program)(h:SH)(n:Nat):SO->Prop
 | .cells _ w l=>w=n∧okL h l
 | .list el _ g w t _=>w=n∧g=n∧szT P el=some t.w∧0 < t.w
 | .spc w _=>w=n
theorem q0Z {h:SH}{f:Nat->SO}(hw:(f h.next).w=h.next)(hg:∀ el gr g w t xs,f h.next=.list el gr g w t xs->g=h.next):Keep h (h.new k f) :=
 ⟨zQK _,fun j ob hj hlt=>by
   by_cases e:j=k
   ·subst e;rw[show slk j (h.new j f).l=some (f h.next) from kU] at hj;cases hj;omega
   ·rwa [show slk j (h.new k f).l=slk j h.l from yC e] at hj,fun j el gr g w t xs hj hlt=>by
   by_cases e:j=k
   ·subst e;rw[show slk j (h.new j f).l=some (f h.next) from kU] at hj;have:=hg _ _ _ _ _ _ (zN0 hj);omega
   ·rw[show slk j (h.new k f).l=slk j h.l from yC e] at hj
    exact⟨w,xs,hj,rfl⟩⟩
theorem yN {h:SH}{f:Nat->SO}(a:OkH P h)(hf:zA3 P h h.next (f h.next)):Keep h (h.new k f)∧OkH P (h.new k f):=by
 have hw:(f h.next).w=h.next:=by
  cases hq:f h.next with
  | cells el w l=>rw[hq] at hf;exact hf.1
  | list el gr g w t xs=>rw[hq] at hf;exact hf.1
  | spc w x=>rw[hq] at hf;exact hf
 have hk:Keep h (h.new k f):=q0Z hw fun el gr g w t xs e=>by rw[e] at hf;exact hf.2.1
 refine⟨hk,⟨fun j ob hj=>?_,fun j el w l hj=>?_,fun j el gr g w t xs hj=>?_⟩⟩
 ·by_cases e:j=k
  ·subst e;rw[show slk j (h.new j f).l=some (f h.next) from kU] at hj;cases hj;rw[hw];exact zNV _
  ·rw[show slk j (h.new k f).l=slk j h.l from yC e] at hj;exact zOM (a.ver j ob hj)
 ·by_cases e:j=k
  ·subst e;rw[show slk j (h.new j f).l=some (f h.next) from kU] at hj;rw[zN0 hj] at hf;exact qI hk hf.2
  ·rw[show slk j (h.new k f).l=slk j h.l from yC e] at hj;exact qI hk (a.cells j el w l hj)
 ·by_cases e:j=k
  ·subst e;rw[show slk j (h.new j f).l=some (f h.next) from kU] at hj;rw[zN0 hj] at hf;exact⟨by rw[hf.2.1];exact zNV _,hf.2.2⟩
  ·rw[show slk j (h.new k f).l=slk j h.l from yC e] at hj;have:=a.list j el gr g w t xs hj;exact⟨zOM this.1,this.2⟩
def zD2 (h:SH)(n:Nat):SO->SO->Prop
 | .cells _ _ _,.cells _ w' l'=>w'=n∧okL h l'
 | .list el gr g _ t xs,ob'=>∃ xs':List t.sem,ob'=.list el gr g n t xs'∧xs.length=xs'.length
 | .spc _ _,.spc w' _=>w'=n
 | _,_=>False
theorem jW {h:SH}{f:Nat->SO}{ob:SO}(a:OkH P h)(hk:slk k h.l=some ob)(hf:zD2 h h.next ob (f h.next)):Keep h (h.put k f)∧OkH P (h.put k f):=by
 have hs:slk k (h.put k f).l=some (f h.next):=qUI hk;have hn:∀ j,j≠k->slk j (h.put k f).l=slk j h.l:=fun j hj=>qEC hj _
 have hw:(f h.next).w=h.next:=by
  cases ob with
  | cells el w l =>
    cases hq:f h.next with
    | cells el' w' l'=>rw[hq] at hf;exact hf.1
    | list=>rw[hq] at hf;exact hf.elim
    | spc=>rw[hq] at hf;exact hf.elim
  | spc w0 x0 =>
    cases hq:f h.next with
    | spc w' x'=>rw[hq] at hf;exact hf
    | list=>rw[hq] at hf;exact hf.elim
    | cells=>rw[hq] at hf;exact hf.elim
  | list el gr g w t xs =>
    obtain⟨xs',e,_⟩:=hf;rw[e];rfl
 have hkp:Keep h (h.put k f):=by
  refine⟨zQK _,fun j o hj hlt=>?_,fun j el gr g w t xs hj hlt=>?_⟩
  ·by_cases e:j=k
   ·subst e;rw[hs] at hj;cases hj;omega
   ·rwa [hn j e] at hj
  ·by_cases e:j=k
   ·subst e;rw[hs] at hj;have hj:=zN0 hj
    cases ob with
    | cells el0 w0 l0 =>
      rw[hj] at hf;exact hf.elim
    | spc w0 x0 =>
      rw[hj] at hf;exact hf.elim
    | list el0 gr0 g0 w0 t0 xs0 =>
      obtain⟨xs',e2,e3⟩:=hf;rw[e2] at hj;injection hj with a1 a2 a3 a4 a5 a6;subst a1 a2 a3 a5;cases a6;exact⟨w0,xs0,hk,e3⟩
   ·rw[hn j e] at hj;exact⟨w,xs,hj,rfl⟩
 refine⟨hkp,⟨fun j o hj=>?_,fun j el w l hj=>?_,fun j el gr g w t xs hj=>?_⟩⟩
 ·by_cases e:j=k
  ·subst e;rw[hs] at hj;cases hj;rw[hw];exact zNV _
  ·rw[hn j e] at hj;exact zOM (a.ver j o hj)
 ·by_cases e:j=k
  ·subst e;rw[hs] at hj;have hj:=zN0 hj
   cases ob with
   | cells el0 w0 l0=>rw[hj] at hf;exact qI hkp hf.2
   | spc w0 x0=>rw[hj] at hf;exact hf.elim
   | list el0 gr0 g0 w0 t0 xs0 =>
     obtain⟨xs',e2,e3⟩:=hf;rw[e2] at hj;cases hj
  ·rw[hn j e] at hj;exact qI hkp (a.cells j el w l hj)
 ·by_cases e:j=k
  ·subst e;rw[hs] at hj;have hj:=zN0 hj
   cases ob with
   | cells el0 w0 l0=>rw[hj] at hf;exact hf.elim
   | spc w0 x0=>rw[hj] at hf;exact hf.elim
   | list el0 gr0 g0 w0 t0 xs0 =>
     obtain⟨xs',e2,e3⟩:=hf;rw[e2] at hj;injection hj with a1 a2 a3 a4 a5 a6;subst a1 a2 a3 a5;have:=a.list j _ _ _ _ _ _ hk;exact⟨zOM this.1,this.2⟩
  ·rw[hn j e] at hj;have:=a.list j el gr g w t xs hj;exact⟨zOM this.1,this.2⟩
theorem fI {h:SH}(a:OkH P h):Keep h (h.del k)∧OkH P (h.del k):=by
 have hl:∀ j ob,slk j (h.del k).l=some ob->slk j h.l=some ob:=fun j ob hj=>by
  by_cases e:j=k
  ·subst e;rw[show slk j (h.del j).l=none from qLZ j _] at hj;cases hj
  ·rwa [show slk j (h.del k).l=slk j h.l from kM e _] at hj
 have hkp:Keep h (h.del k):=⟨zM0 _,fun j ob hj _=>hl j ob hj,fun j el gr g w t xs hj _=>⟨w,xs,hl _ _ hj,rfl⟩⟩
 exact⟨hkp,⟨fun j ob hj=>a.ver j ob (hl j ob hj),fun j el w l hj=>qI hkp (a.cells j el w l (hl _ _ hj)),fun j el gr g w t xs hj=>a.list j el gr g w t xs (hl _ _ hj)⟩⟩
def GV (Γ:Option Type):Type:=match Γ with
 | none=>Unit
 | some γ=>γ
def GS (Γ:Option Type)(S:Type):Type:=match Γ with
 | none=>S
 | some γ=>γ×S
def gj:{Γ:Option Type}->{S:Type}->GV Γ->S->GS Γ S
 | none,_,_,s=>s
 | some _,_,g,s=>(g,s)
def g1:{Γ:Option Type}->{S:Type}->GS Γ S->GV Γ
 | none,_,_=>()
 | some _,_,p=>p.1
def g2:{Γ:Option Type}->{S:Type}->GS Γ S->S
 | none,_,s=>s
 | some _,_,p=>p.2
theorem q3Y {Γ:Option Type}{S:Type}{g:GV Γ}{s:S}:g1 (gj g s)=g:=by cases Γ <;> rfl
theorem q02 {Γ:Option Type}{S:Type}{g:GV Γ}{s:S}:g2 (gj g s)=s:=by cases Γ <;> rfl
structure Ent where
 as:List Ty
 rs:List Ty
 F:TyL as->Option (TyL rs)
abbrev yY:=List (FuncId×Ent)
def slT (g:FuncId):yY->Option Ent
 | []=>none
 | (k,e)::l=>cond (Nat.beq g k) (some e) (slT g l)
structure Sh where
 d:List Nat
 o:List Nat
 s:List (Nat×Nat)
 v:List (Nat×TypeId)
 ex:List Nat
 b:List (Nat×List (Option Nat)):=[]
 bv:List (Nat×Nat×TypeId×Nat):=[]
structure Ab where
 A:List Ty->Type
 f:∀ ts,TyL ts->A ts
structure zHU where
 d:List Nat
 os:List (Nat×Bool)
 s:List (Nat×Nat)
 b:List (Nat×List (Option Nat))
 ts:List Ty
def zHU.sh (j:zHU):Sh:=⟨j.d,j.os.map (·.1),j.s,[],[],j.b,[]⟩
structure An where
 fz:List (Nat×List (Nat×TypeId))
 lp:List (Nat×Sh)
 rg:List (Nat×Sh):=[]
 ab:List (Nat×Ab):=[]
 jn:List (Nat×zHU):=[]
def lkA.{u}{α:Type u}(i:Nat):List (Nat×α)->Option α
 | []=>none
 | (j,x)::l=>cond (Nat.beq i j) (some x) (lkA i l)
structure zFV where
 as:List Ty
 ys:List Ty
 yt:List TypeId
 F:TyL as->(γ:Type)->(γ->TyL ys->Option (γ×Bool))->γ->Option γ
def slI (g:FuncId):List (FuncId×zFV)->Option zFV
 | []=>none
 | (k,e)::l=>cond (Nat.beq g k) (some e) (slI g l)
structure YI (Γ:Type) where
 ys:List Ty
 yt:List TypeId
 stp:Γ->TyL ys->Option (Γ×Bool)
def yi0:YI Unit:=⟨[],[],fun _ _=>none⟩
abbrev CIT:Type 1:=(R:Type)->Nm->FuncId->List SV->SH->(SV->SH->zE9 R)->zE9 R
end Go.Sv
namespace Go.Sv
open Go.Idl
variable {a b env l:List SV}{el t:TypeId}{ik k:IntKind}{j n off w w':Nat}{v x:SV}{xs ys:List Int}
noncomputable section
variable [Gc]
variable [Yl]
variable {P:Program}{h:SH}{R:Type}{r:R}
def q9Y:Value->SV
 | .agg cs=>cond (jZ okC cs.toList) (.agg (kP .c cs.toList)) .unk
 | .tuple cs=>cond (jZ okC cs.toList) (.tup (kP .c cs.toList)) .unk
 | v=>cond (okC v) (.c v) .unk
def xS (env:List SV):Operand->SV
 | .tmp t=>(zJ env t).getD .unk
 | .const v=>q9Y v
 | .global _=>.unk
 | .func g=>.c (.func (.func g) #[] #[])
theorem zCB:∀ (l:List Value),qB (kP .c l)=kP fvv l
 | []=>by simp[kP,qB]
 | v::l=>by
   show qB (.c v::kP .c l)=fvv v::kP fvv l;simp[qB,zCB l,SV.enc]
omit [Yl] in
theorem zB2:∀ (l:List Value),okL h (kP .c l)
 | []=>by simp[kP,okL]
 | v::l=>by
   show okL h (.c v::kP .c l);simp[okL,zB2 l,SV.ok]
theorem q1Z (v:Value):ofC v=(q9Y v).enc:=by
 cases v with
 | agg cs =>
   show cond _ _ _=(cond (jZ okC cs.toList) (SV.agg (kP .c cs.toList)) SV.unk).enc;cases jZ okC cs.toList
   ·simp[SV.enc]
   ·simp[SV.enc,zCB]
 | tuple cs =>
   show cond _ _ _=(cond (jZ okC cs.toList) (SV.tup (kP .c cs.toList)) SV.unk).enc;cases jZ okC cs.toList
   ·simp[SV.enc]
   ·simp[SV.enc,zCB]
 | _ =>
   simp only[ofC,q8G,q9Y];cases okC _ <;> simp[SV.enc]
omit [Yl] in
theorem q65 (v:Value):(q9Y v).ok h:=by
 cases v with
 | agg cs =>
   show (cond (jZ okC cs.toList) (.agg (kP .c cs.toList)) .unk:SV).ok h;cases jZ okC cs.toList
   ·simp[SV.ok]
   ·simp[SV.ok,zB2]
 | tuple cs =>
   show (cond (jZ okC cs.toList) (.tup (kP .c cs.toList)) .unk:SV).ok h;cases jZ okC cs.toList
   ·simp[SV.ok]
   ·simp[SV.ok,zB2]
 | _ =>
   simp only[q9Y];cases okC _ <;> simp[SV.ok]
theorem qU (env:List SV)(t:Nat):zJ (qB env) t=(zJ env t).map SV.enc:=by
 rw[qG,qG,zD,zNC]
omit [Yl] in
theorem eZ {t:Nat}(ho:okL h env)(hx:zJ env t=some x):x.ok h:=by
 rw[qG] at hx;exact zK.1 ho x (zN5 hx)
theorem qN (env:List SV)(x:Operand):qJ (qB env) x=(xS env x).enc:=by
 cases x with
 | tmp t =>
   show (zJ (qB env) t).getD .unk=((zJ env t).getD .unk).enc;rw[qU];cases zJ env t <;> simp[SV.enc]
 | const v=>exact q1Z v
 | global g=>simp[qJ,xS,SV.enc]
 | func g=>simp[qJ,xS,SV.enc]
omit [Yl] in
theorem mH (ho:okL h env)(x:Operand):(xS env x).ok h:=by
 cases x with
 | tmp t =>
   show ((zJ env t).getD .unk).ok h
   cases hx:zJ env t with
   | none=>simp[SV.ok]
   | some y=>exact eZ ho hx
 | const v=>exact q65 v
 | global g=>simp[xS,SV.ok]
 | func g=>simp[xS,SV.ok]
def asI:SV->Option (IntKind×Int)
 | .d (.int k) x=>some (k,x)
 | .c (.int k x)=>some (k,x)
 | _=>none
def asB:SV->Option Bool
 | .d .bool x=>some x
 | .c (.bool x)=>some x
 | _=>none
def asS:SV->Option ByteArray
 | .d .str x=>some x
 | .c (.string x)=>some x
 | _=>none
theorem yD {x:Int}(e:asI v=some (k,x)):v.enc=fvv (.int k x):=by
 unfold asI at e;split at e
 ·cases e;simp[SV.enc,Ty.fv,fvv]
 ·cases e;simp[SV.enc]
 ·cases e
theorem rG {x:Bool}(e:asB v=some x):v.enc=fvv (.bool x):=by
 unfold asB at e;split at e
 ·cases e;simp[SV.enc,Ty.fv,fvv]
 ·cases e;simp[SV.enc]
 ·cases e
theorem uT {x:ByteArray}(e:asS v=some x):v.enc=fvv (.string x):=by
 unfold asS at e;split at e
 ·cases e;simp[SV.enc,Ty.fv,fvv]
 ·cases e;simp[SV.enc]
 ·cases e
def Ty.svs:(t:Ty)->t.sem->List SV
 | .int k,x=>[.d (.int k) x]
 | .bool,x=>[.d .bool x]
 | .str,x=>[.d .str x]
 | .unit,_=>[]
 | .list el t,x=>[.d (.list el t) x]
 | .pair a b,x=>a.svs x.1++b.svs x.2
 | .raw,x=>[.d .raw x]
 | .ol el k,x=>[.d (.ol el k) x]
 | .nif,x=>[.d .nif x]
 | .fnv g,_=>[.c (.func (.func g) #[] #[])]
theorem mX (a b:List SV):qB (a++b)=qB a++qB b:=by simp[zD]
theorem gQ:∀ (t:Ty) (x:t.sem),qB (t.svs x)=(t.cells x).map .f
 | .int k,x=>by simp[Ty.svs,Ty.cells,qB,SV.enc,Ty.fv]
 | .bool,x=>by simp[Ty.svs,Ty.cells,qB,SV.enc,Ty.fv]
 | .str,x=>by simp[Ty.svs,Ty.cells,qB,SV.enc,Ty.fv]
 | .unit,x=>by simp[Ty.svs,Ty.cells,qB]
 | .list el t,x=>by simp[Ty.svs,Ty.cells,qB,SV.enc,Ty.fv]
 | .raw,x=>by simp[Ty.svs,Ty.cells,qB,SV.enc,Ty.fv]
 | .ol el k,x=>by simp[Ty.svs,Ty.cells,qB,SV.enc,Ty.fv]
 | .nif,x=>by simp[Ty.svs,Ty.cells,qB,SV.enc,Ty.fv]
 | .fnv _,x=>by simp[Ty.svs,Ty.cells,qB,SV.enc,Ty.fv,fvv]
 | .pair a b,x=>by
   show qB (a.svs x.1++b.svs x.2)=(a.cells x.1++b.cells x.2).map .f;rw[mX,gQ a,gQ b,zN6]
omit [Yl] in
theorem aT (x:okL h a)(y:okL h b):okL h (a++b):=zK.2 fun z hz=>by
 rcases zNM.1 hz with q | q
 ·exact zK.1 x z q
 ·exact zK.1 y z q
omit [Yl] in
theorem qDN:∀ (t:Ty) (x:t.sem),okL h (t.svs x)
 | .int k,x=>by simp[Ty.svs,okL,SV.ok]
 | .bool,x=>by simp[Ty.svs,okL,SV.ok]
 | .str,x=>by simp[Ty.svs,okL,SV.ok]
 | .unit,x=>by simp[Ty.svs,okL]
 | .list el t,x=>by simp[Ty.svs,okL,SV.ok]
 | .raw,x=>by simp[Ty.svs,okL,SV.ok]
 | .ol el k,x=>by simp[Ty.svs,okL,SV.ok]
 | .nif,x=>by simp[Ty.svs,okL,SV.ok]
 | .fnv _,x=>by simp[Ty.svs,okL,SV.ok]
 | .pair a b,x=>aT (qDN a x.1) (qDN b x.2)
def q79 (k:IntKind)(v:SV):Option Int:=match asI v with
 | some (k',x)=>cond (decide (k'=k)) (some x) none
 | none=>none
def zCW (el:TypeId)(t:Ty):SV->Option (List t.sem)
 | .d (.list el' t') xs=>if e:t'=t then cond (Nat.beq el' el) (some (e ▸ xs)) none else none
 | _=>none
def asR:SV->Option (List (Value×Value))
 | .d .raw x=>some x
 | _=>none
def q6J (el:TypeId)(k:IntKind):SV->Option (List Int)
 | .d (.ol el' k') xs=>cond (Nat.beq el' el&&decide (k'=k)) (some xs) none
 | .c (.slice none 0 0)=>some []
 | _=>none
def q7P:SV->Option Unit
 | .d .nif _=>some ()
 | .c .nilIface=>some ()
 | _=>none
def q44 (g:FuncId):SV->Option Unit
 | .d (.fnv g') _=>cond (Nat.beq g' g) (some ()) none
 | .c (.func (.func g') a c)=>cond (Nat.beq g' g&&(a.toList.isEmpty&&c.toList.isEmpty)) (some ()) none
 | _=>none
def Ty.zJI:(t:Ty)->SV->Option t.sem
 | .int k,v=>q79 k v
 | .bool,v=>asB v
 | .str,v=>asS v
 | .list el t,v=>zCW el t v
 | .unit,_=>none
 | .pair _ _,_=>none
 | .raw,v=>asR v
 | .ol el k,v=>q6J el k v
 | .nif,v=>q7P v
 | .fnv g,v=>q44 g v
theorem nY {x:Int}(e:q79 k v=some x):v.enc=fvv (.int k x):=by
 unfold q79 at e;split at e
 ·rename_i k' x' hx
  cases hk:decide (k'=k) with
  | false=>rw[hk] at e;cases e
  | true =>
    rw[hk] at e;cases e;have:k'=k:=by simpa using hk
    subst this;exact yD hx
 ·cases e
omit [Yl] in
theorem qY3 {t:Ty}{x:List t.sem}(e:zCW el t v=some x):v=.d (.list el t) x:=by
 unfold zCW at e;split at e
 ·rename_i el' t' xs;split at e
  ·rename_i ht;subst ht
   cases hk:Nat.beq el' el with
   | false=>rw[hk] at e;cases e
   | true =>
     rw[hk] at e;cases e;have:el'=el:=zMZ hk;subst this;rfl
  ·cases e
 ·cases e
theorem qU8 {x:List Int}(e:q6J el k v=some x):v.enc=.f (fvo el k x):=by
 unfold q6J at e;split at e
 ·rename_i el' k' xs
  cases hk:(Nat.beq el' el&&decide (k'=k)) with
  | false=>rw[hk] at e;cases e
  | true =>
    rw[hk] at e;cases e;rw[zMY] at hk;have h1:el'=el:=zMZ hk.1;have h2:k'=k:=by simpa using hk.2
    subst h1 h2;simp[SV.enc,Ty.fv]
 ·cases e;simp[SV.enc,fvo,fvv]
 ·cases e
theorem sU:∀ {t:Ty} {v:SV} {x:t.sem},t.zJI v=some x->v.enc=.f (t.fv x)∧t.one=true
 | .int k,v,x,e=>⟨nY e,rfl⟩
 | .bool,v,x,e=>⟨rG e,rfl⟩
 | .str,v,x,e=>⟨uT e,rfl⟩
 | .list el t,v,x,e=>⟨by rw[qY3 e];simp[SV.enc],rfl⟩
 | .ol el k,v,x,e=>⟨qU8 e,rfl⟩
 | .fnv g,v,x,e=>by
   have e:q44 g v=some x:=e;refine⟨?_,rfl⟩;unfold q44 at e;split at e
   ·rename_i g' _ _
    cases hg:Nat.beq g' g with
    | false=>rw[hg] at e;cases e
    | true =>
      cases zMZ hg;simp[SV.enc,Ty.fv]
   ·rename_i g' a c _
    cases hg:(Nat.beq g' g&&(a.toList.isEmpty&&c.toList.isEmpty)) with
    | false=>rw[hg] at e;cases e
    | true =>
      simp only[zMY] at hg;cases zMZ hg.1;have ha:a=#[]:=Array.toList_inj.1 (zP5.1 hg.2.1);have hc:c=#[]:=Array.toList_inj.1 (zP5.1 hg.2.2);subst ha hc;simp[SV.enc,Ty.fv,fvv]
   ·cases e
 | .nif,v,x,e=>by
   have e:q7P v=some x:=e;refine⟨?_,rfl⟩;unfold q7P at e;split at e
   ·simp[SV.enc,Ty.fv]
   ·simp[SV.enc,Ty.fv,fvv]
   ·cases e
 | .raw,v,x,e=>by
   have e:asR v=some x:=e;refine⟨?_,rfl⟩;unfold asR at e;split at e
   ·cases e;simp[SV.enc]
   ·cases e
 | .unit,v,x,e=>by cases e
 | .pair a b,v,x,e=>by cases e
def qYU (t:Ty):List SV->Option (t.sem×List SV)
 | v::l=>match t.zJI v with
   | some x=>some (x,l)
   | none=>none
 | []=>none
def Ty.zH7:(t:Ty)->List SV->Option (t.sem×List SV)
 | .int k,l=>qYU (.int k) l
 | .bool,l=>qYU .bool l
 | .str,l=>qYU .str l
 | .raw,l=>qYU .raw l
 | .ol el k,l=>qYU (.ol el k) l
 | .nif,l=>qYU .nif l
 | .fnv g,l=>qYU (.fnv g) l
 | .list el t,l=>qYU (.list el t) l
 | .unit,l=>some ((),l)
 | .pair a b,l=>match a.zH7 l with
   | some (x,l1)=>(match b.zH7 l1 with
     | some (y,l2)=>some ((x,y),l2)
     | none=>none)
   | none=>none
theorem uJ {t:Ty}{l':List SV}{x:t.sem}(e:qYU t l=some (x,l')):qB l=(t.cells x).map .f++qB l':=by
 cases l with
 | nil=>cases e
 | cons v l =>
   unfold qYU at e;simp only at e;split at e
   ·rename_i y hy;cases e;obtain⟨h1,h2⟩:=sU hy;rw[Ty.cells_one h2];simp[qB,h1]
   ·cases e
theorem tQ:∀ {t:Ty} {l l':List SV} {x:t.sem},t.zH7 l=some (x,l')->qB l=(t.cells x).map .f++qB l'
 | .int k,l,l',x,e=>uJ e
 | .bool,l,l',x,e=>uJ e
 | .str,l,l',x,e=>uJ e
 | .raw,l,l',x,e=>uJ e
 | .ol _ _,l,l',x,e=>uJ e
 | .nif,l,l',x,e=>uJ e
 | .fnv _,l,l',x,e=>uJ e
 | .list el t,l,l',x,e=>uJ e
 | .unit,l,l',x,e=>by cases e;simp[Ty.cells]
 | .pair a b,l,l',x,e=>by
   unfold Ty.zH7 at e;split at e
   ·rename_i x1 l1 h1;split at e
    ·rename_i y l2 h2;cases e;show qB l=(a.cells x1++b.cells y).map .f++qB l';rw[tQ h1,tQ h2,zN6,zNN]
    ·cases e
   ·cases e
def Ty.zHV (t:Ty)(l:List SV):Option t.sem:=match t.zH7 l with
 | some (x,[])=>some x
 | _=>none
theorem nK {t:Ty}{x:t.sem}(e:t.zHV l=some x):qB l=(t.cells x).map .f:=by
 unfold Ty.zHV at e;split at e
 ·rename_i y hy;cases e;rw[tQ hy];simp[qB]
 ·cases e
def qE7 (P:Program)(t:TypeId)(l:List SV)(off:Nat):Option SV:=match qPK P t with
 | some true=>(match szT P t with
   | some n=>cond (Nat.ble (off+n) l.length) (some (.agg ((l.drop off).take n))) none
   | none=>none)
 | some false=>zJ l off
 | none=>none
omit [Yl] in
theorem qM4 {b:List SV}(x:okL h a)(hs:∀ z∈b,z∈a):okL h b:=zK.2 fun z hz=>zK.1 x z (hs z hz)
theorem qGC (e:qE7 P t l off=some v):aJ P t (qB l) off=some v.enc∧(okL h l->v.ok h):=by
 unfold qE7 at e;unfold aJ;split at e
 ·rename_i ha;rw[ha];simp only;split at e
  ·rename_i n hn;rw[hn];simp only
   cases hc:Nat.ble (off+n) l.length with
   | false=>rw[hc] at e;cases e
   | true =>
     rw[hc] at e;cases e;refine⟨by rw[zD,zNA,hc];simp[SV.enc,zD,zPA,zO5],fun ho=>?_⟩;simp only[SV.ok];exact qM4 ho fun z hz=>zP2 (zP1 hz)
  ·cases e
 ·rename_i ha;rw[ha];simp only;rw[qU,e];exact⟨rfl,fun ho=>eZ ho e⟩
 ·cases e
theorem qCS {t':Ty}{xs:List t'.sem}{x:t'.sem}(hx:xs[j]?=some x)(e:qE7 P t (t'.svs x) off=some v) :
 aJ P t ((xs.flatMap t'.cells).map .f) (j*t'.w+off)=some v.enc∧qMV P t (xs.flatMap t'.cells) (j*t'.w+off)=some v.enc∧v.ok h:=by
 have h0:=qGC (h:=h) e;refine⟨?_,?_,h0.2 (qDN t' x)⟩
 all_goals
  have h1:=h0.1;rw[gQ] at h1;unfold aJ at h1
 ·unfold aJ;split at h1
  ·rename_i ha;split at h1
   ·rename_i n hn
    cases hc:Nat.ble (off+n) ((t'.cells x).map PV.f).length with
    | false=>rw[hc] at h1;cases h1
    | true =>
      rw[hc] at h1
      have hle:off+n<=t'.w:=by
       have:=zM9 hc;rw[zNA,t'.zFJ] at this;exact this
      rw[show Nat.ble (j*t'.w+off+n) ((xs.flatMap t'.cells).map PV.f).length=true from zNL (by rw[zNA];exact qG1 hx hle)];simp only[cond_true] at h1 ⊢;rw[<-h1,<-zPA,<-zO5,qKO hx hle,<-zPA,<-zO5]
   ·cases h1
  ·rename_i ha;rw[qG,zNC] at h1 ⊢
   have hlt:off < t'.w:=by
    rw[<-t'.zFJ x]
    cases hq:(t'.cells x)[off]? with
    | none=>rw[hq] at h1;cases h1
    | some y=>exact (zM6.1 hq).1
   rw[Go.Sv.flat_get hx hlt];exact h1
  ·cases h1
 ·unfold qMV;split at h1
  ·rename_i ha;split at h1
   ·rename_i n hn
    cases hc:Nat.ble (off+n) ((t'.cells x).map PV.f).length with
    | false=>rw[hc] at h1;cases h1
    | true =>
      rw[hc] at h1
      have hle:off+n<=t'.w:=by
       have:=zM9 hc;rw[zNA,t'.zFJ] at this;exact this
      rw[show Nat.ble (j*t'.w+off+n) (xs.flatMap t'.cells).length=true from zNL (qG1 hx hle)];simp only[cond_true] at h1 ⊢;rw[<-h1,qKO hx hle,<-zPA,<-zO5]
   ·cases h1
  ·rename_i ha;rw[qG,zNC] at h1
   cases hq:(t'.cells x)[off]? with
   | none=>rw[hq] at h1;cases h1
   | some y =>
     rw[hq] at h1
     have hlt:off < t'.w:=by
      rw[<-t'.zFJ x];exact (zM6.1 hq).1
     rw[Go.Sv.flat_get hx hlt,hq];exact h1
  ·cases h1
def zB1:List SV->Option IntKind
 | v::_=>(asI v).map Prod.fst
 | []=>none
def qA6 (ik:IntKind):List SV->Option (List Int)
 | []=>some []
 | v::l=>match q79 ik v,qA6 ik l with
   | some x,some xs=>some (x::xs)
   | _,_=>none
def q8T (off:Nat)(v:Int)(xs:List Int):Option (List Int):=if off < xs.length then some (xs.set off v) else none
def spread (ik:IntKind)(n:Nat)(ys:List Int):List SV:=(List.range n).map fun i=>SV.d (.int ik) (ys.getD i 0:Int)
theorem wF {ik:IntKind}:∀ {l:List SV} {xs:List Int},qA6 ik l=some xs->qB l=xs.map fun x=>fvv (.int ik x)
 | [],xs,e=>by cases e;simp[qB]
 | v::l,xs,e=>by
   unfold qA6 at e;split at e
   ·rename_i x ys hx hy;cases e;simp only[qB,zNH,nY hx,wF hy]
   ·cases e
theorem rE (h:ys.length=n):qB (spread ik n ys)=ys.map fun x=>fvv (.int ik x):=by
 rw[zD];unfold spread;rw[zO6];apply zOI;intro i;rw[zNC,zNC];by_cases hi:i < n
 ·rw[zRC hi,zM2 (by omega:i < ys.length)];simp only[zNE,Function.comp,zM7];rw[zOE,zM2 (by omega:i < ys.length)];simp[SV.enc,Ty.fv,fvv]
 ·rw[zOF (by simp;omega),zOF (by omega)];rfl
theorem qKL:okL h (spread ik n ys):=zK.2 fun x hx=>by
 unfold spread at hx;obtain⟨i,_,rfl⟩:=zNO.1 hx;simp[SV.ok]
def zCA (P:Program)(t:TypeId)(off w:Nat)(el:TypeId)(ik:IntKind)(xs:List Int)(K:SV->zE9 R):zE9 R:=cond (spec P el) .fail (match qPK P t,szT P t with
 | some false,_=>.ite (Nat.beq w (List.length xs)) (.bind (xs[off]?) fun x=>K (.d (.int ik) (x:Int))) .fail
 | some true,some n=>cond (Nat.beq off 0&&Nat.beq n w) (.ite (Nat.beq w (List.length xs)) (K (.agg (spread ik w xs))) .fail) .fail
 | _,_=>.fail)
theorem qVW {k:Nat}{K:SV->zE9 R}(hk:qA k (qD h.l)=some (SO.spc w' (.arr el ik xs)).enc)(e:(zCA P t off w el ik xs K).run=some r):∃ v,fH P t (.ref k w off) (qD h.l)=some v.enc∧v.ok h∧(K v).run=some r:=by
 unfold zCA at e
 cases hsp:spec P el with
 | true=>rw[hsp] at e;cases e
 | false =>
 rw[hsp] at e;simp only[cond_false] at e
 have pre:fH P t (.ref k w off) (qD h.l)=cond (Nat.beq w xs.length) (aJ P t (xs.map fun x=>fvv (.int ik x)) off) none:=by
  simp only[fH,hk];show cond (spec P el) none (cond (Nat.beq w (xs.map fun x=>fvv (.int ik x)).length) _ none)=_;rw[hsp,zNA];rfl
 rw[pre];split at e
 ·rename_i ha
  rcases run_ite e with ⟨z,e1⟩ | ⟨_,e1⟩
  ·obtain⟨x,hx,e2⟩:=run_bind e1;refine⟨_,?_,by simp[SV.ok],e2⟩;rw[z];simp only[cond_true,aJ,ha];rw[qG,zNC,hx];simp[SV.enc,Ty.fv,fvv]
  ·cases e1
 ·rename_i n ha hn;obtain⟨c,e0⟩:=qF e;rw[zMY] at c;have h0:=zMZ c.1;have h1:=zMZ c.2;subst h0 h1
  rcases run_ite e0 with ⟨z,e1⟩ | ⟨_,e1⟩
  ·refine⟨_,?_,by simp only[SV.ok];exact qKL,e1⟩;have hl:=zMZ z;rw[z];simp only[cond_true,aJ,ha,hn];rw[show Nat.ble (0+n) (xs.map fun x=>fvv (.int ik x)).length=true from zNL (by rw[zNA];omega)];simp only[cond_true,zOH,SV.enc];rw[rE hl.symm,zNR (by rw[zNA];omega)]
  ·cases e1
 ·cases e
def q6Z (P:Program)(t:TypeId)(a:SV)(h:SH)(K:SV->zE9 R):zE9 R:=match a with
 | .ref k off w=>(match slk k h.l with
   | some (.cells el _ l)=>(match qE7 P t l off with
     | some v=>cond (!(spec P el)&&Nat.beq w l.length) (K v) .fail
     | none=>.fail)
   | some (.spc _ (.arr el ik xs))=>zCA P t off w el ik xs K
   | _=>.fail)
 | .elt k g n w j off=>(match slk k h.l with
   | some (.list _ _ g' _ t' xs)=>cond (Nat.beq g g'&&Nat.beq w t'.w) (.bind (xs[j]?) fun x=>match qE7 P t (t'.svs x) off with
     | some v=>K v
     | none=>.fail) .fail
   | _=>.fail)
 | .lp t' xs j off=>.bind (xs[j]?) fun x=>match qE7 P t (t'.svs x) off with
   | some v=>K v
   | none=>.fail
 | .rfx k off w=>(match slk k h.l with
   | some (.cells el _ l)=>(match zB1 l with
     | some ik=>(match qA6 ik l,qPK P t with
       | some xs,some false=>cond (!(spec P el)&&Nat.beq w l.length) (.bind (xs[off]?) fun x=>K (.d (.int ik) (x:Int))) .fail
       | _,_=>.fail)
     | none=>.fail)
   | some (.spc _ (.arr el ik xs))=>zCA P t off w el ik xs K
   | _=>.fail)
 | .etx k g n w j off=>(match slk k h.l with
   | some (.list _ _ g' _ t' xs)=>cond (Nat.beq g g'&&Nat.beq w t'.w) (.bind (xs[j]?) fun x=>match zB1 (t'.svs x) with
     | some ik=>(match qA6 ik (t'.svs x),qPK P t with
       | some ys,some false=>.bind (ys[off]?) fun z=>K (.d (.int ik) (z:Int))
       | _,_=>.fail)
     | none=>.fail) .fail
   | _=>.fail)
 | _=>.fail
theorem qP (l:List SV):(qB l).length=l.length:=by rw[zD,zNA]
theorem zM {k:Nat}{ob:SO}{l:List (Nat×SO)}(e:slk k l=some ob):qA k (qD l)=some ob.enc:=by rw[vC,e];rfl
theorem qR {gr:Bool}{g:Nat}{t:Ty}{xs:List t.sem}:(SO.list el gr g w t xs).enc.cs.length=xs.length*t.w:=by
 show ((xs.flatMap t.cells).map PV.f).length=_;rw[zNA,zU]
theorem qZW {a:SV}{K:SV->zE9 R}(ho:OkH P h)(ha:a.ok h)(e:(q6Z P t a h K).run=some r):∃ v,fH P t a.enc (qD h.l)=some v.enc∧v.ok h∧(K v).run=some r:=by
 unfold q6Z at e;split at e
 ·rename_i k off w;split at e
  ·rename_i el w' l hk;split at e
   ·rename_i v hv;obtain⟨h1,h2⟩:=qF e;rw[zMY,zNJ] at h1;obtain⟨hsp,h1⟩:=h1;obtain⟨h3,h4⟩:=qGC (h:=h) hv;refine⟨v,?_,h4 (ho.cells _ _ _ _ hk),h2⟩;simp only[SV.enc,fH,zM hk];show cond (spec P el) none (cond (Nat.beq w (qB l).length) (aJ P t (qB l) off) none)=_;rw[qP,h1,hsp];exact h3
   ·cases e
  ·rename_i w' el ik xs hk;obtain⟨v,h1,h2,h3⟩:=qVW (zM hk) e;exact⟨v,by simp only[SV.enc];exact h1,h2,h3⟩
  ·cases e
 ·rename_i k g n w j off;split at e
  ·rename_i el gr g' w' t' xs hk;obtain⟨h1,h2⟩:=qF e;rw[zMY] at h1;have hg:g=g':=zMZ h1.1;have hw:w=t'.w:=zMZ h1.2;subst hg hw;obtain⟨x,hx,h3⟩:=run_bind h2;split at h3
   ·rename_i v hv;have h5:=qCS (h:=h) hx hv;refine⟨v,?_,h5.2.2,h3⟩;simp only[SV.ok] at ha;have hn:n=xs.length:=ha.2 _ _ _ _ _ hk;simp only[SV.enc,fH,zM hk];rw[qR,hn,show spec P (SO.list el gr g w' t' xs).enc.el=false from xR (ho.list _ _ _ _ _ _ _ hk).2.1];simp only[aA,cond_true,cond_false];exact h5.1
   ·cases h3
  ·cases e
 ·rename_i t' xs j off;obtain⟨x,hx,h3⟩:=run_bind e;split at h3
  ·rename_i v hv;have h5:=qCS (h:=h) hx hv;exact⟨v,by simp only[SV.enc,fH];exact h5.2.1,h5.2.2,h3⟩
  ·cases h3
 ·rename_i k off w;split at e
  ·rename_i el w' l hk;split at e
   ·rename_i ik hik;split at e
    ·rename_i xs hxs hag;obtain⟨h1,h2⟩:=qF e;rw[zMY,zNJ] at h1;obtain⟨hsp,h1⟩:=h1;obtain⟨x,hx,h3⟩:=run_bind h2;refine⟨_,?_,by simp[SV.ok],h3⟩;simp only[SV.enc,fH,zM hk];show cond (spec P el) none (cond (Nat.beq w (qB l).length) (aJ P t (qB l) off) none)=_;rw[qP,h1,hsp];simp only[cond_true,cond_false];unfold aJ;rw[hag];show zJ (qB l) off=_;rw[qG,wF hxs,zNC,hx];simp[Ty.fv,fvv]
    ·cases e
   ·cases e
  ·rename_i w' el ik xs hk;obtain⟨v,h1,h2,h3⟩:=qVW (zM hk) e;exact⟨v,by simp only[SV.enc];exact h1,h2,h3⟩
  ·cases e
 ·rename_i k g n w j off;split at e
  ·rename_i el gr g' w' t' xs hk;obtain⟨h1,h2⟩:=qF e;rw[zMY] at h1;have hg:g=g':=zMZ h1.1;have hw:w=t'.w:=zMZ h1.2;subst hg hw;obtain⟨x,hx,h3⟩:=run_bind h2;split at h3
   ·rename_i ik hik;split at h3
    ·rename_i ys hys hag;obtain⟨z,hz,h4⟩:=run_bind h3;refine⟨_,?_,by simp[SV.ok],h4⟩;have hn1:zJ (qB (t'.svs x)) off=some (fvv (.int ik z)):=by rw[qG,wF hys,zNC,hz];rfl
     rw[qU] at hn1;obtain⟨v0,hv0,hv1⟩:=zM8.1 hn1;have hsp:qE7 P t (t'.svs x) off=some v0:=by unfold qE7;rw[hag];exact hv0
     have h5:=qCS (h:=h) hx hsp;simp only[SV.ok] at ha;have hn:n=xs.length:=ha.2 _ _ _ _ _ hk;simp only[SV.enc,fH,zM hk];rw[qR,hn,show spec P (SO.list el gr g w' t' xs).enc.el=false from xR (ho.list _ _ _ _ _ _ _ hk).2.1];simp only[aA,cond_true,cond_false];have h6:=h5.1;rw[hv1] at h6;rw[show (SO.list el gr g w' t' xs).enc.cs=(xs.flatMap t'.cells).map .f from rfl,h6];simp[Ty.fv,fvv]
    ·cases h3
   ·cases h3
  ·cases e
 ·cases e
def Post (P:Program)(h h':SH)(v:SV):Prop:=Keep h h'∧OkH P h'∧v.ok h'
def yP:SV->List SV
 | .agg l=>l
 | v=>[v]
theorem dI (v:SV):zC v.enc=qB (yP v):=by
 cases v <;> simp[SV.enc,zC,yP,qB,fvv];rename_i b _ _ _;cases b <;> rfl
omit [Yl] in
theorem qCI (hv:v.ok h):okL h (yP v):=by
 cases v <;> simp only[yP,okL,SV.ok,and_true] at hv ⊢ <;> exact hv
def qBN (l:List SV)(i:Nat)(vs:List SV):List SV:=l.take i++vs++l.drop (i+vs.length)
theorem qCB (l vs:List SV)(i:Nat):qB (qBN l i vs)=yH (qB l) i (qB vs):=by
 simp[qBN,yH,zD,zO5,zPA]
omit [Yl] in
theorem qOO {vs:List SV}{i:Nat}(a:okL h l)(b:okL h vs):okL h (qBN l i vs) :=
 aT (aT (qM4 a fun z hz=>zP1 hz) b) (qM4 a fun z hz=>zP2 hz)
omit [Yl] in
theorem q1F {α:Type}(A B C:List α)(c:List α)(hle:off+c.length<=B.length) :
 (A++B++C).take (A.length+off)++c++(A++B++C).drop (A.length+off+c.length)=A++(B.take off++c++B.drop (off+c.length))++C:=by
 rw[zNN A B C,List.take_append,zNR (by omega),zQU,List.take_append_of_le_length (by omega)];rw[zOW,List.drop_append,zQX (by omega),zQU,zQC,List.drop_append_of_le_length (by omega)];simp[zNN]
omit [Yl] in
theorem qD2 {t:Ty}{xs:List t.sem}{x:t.sem}(hx:xs[j]?=some x)(y:t.sem):(xs.set j y).flatMap t.cells=(xs.take j).flatMap t.cells++t.cells y++(xs.drop (j+1)).flatMap t.cells:=by
 have hl:=(zM6.1 hx).1;rw[zO8,if_pos hl,zP7,zNQ,zNN]
omit [Yl] in
theorem qEW {t:Ty}{xs:List t.sem}{x y:t.sem}(hx:xs[j]?=some x){c:List PV}(hle:off+c.length<=t.w)(hy:yH ((t.cells x).map .f) off c=(t.cells y).map .f) :
 yH ((xs.flatMap t.cells).map .f) (j*t.w+off) c=((xs.set j y).flatMap t.cells).map .f:=by
 have hl:=(zM6.1 hx).1
 have e0:xs.set j x=xs:=by
  apply zOI;intro i;rw[zNU];by_cases e:j=i
  ·subst e;rw[if_pos rfl,if_pos hl,hx]
  ·rw[if_neg e]
 have e1:=qD2 hx x;rw[e0] at e1;rw[qD2 hx y,e1];simp only[zN6];unfold yH;have hA:(((xs.take j).flatMap t.cells).map PV.f).length=j*t.w:=by rw[zNA,zU,zOA,zOP (by omega)]
 rw[<-hA,q1F _ _ _ _ (by rw[zNA,t.zFJ];exact hle)];unfold yH at hy;rw[hy]
def zB4 (P:Program)(n off w:Nat)(el:TypeId)(ik:IntKind)(xs:List Int)(k:Nat)(x:SV)(h:SH)(K:SV->SH->zE9 R):zE9 R:=cond (spec P el) .fail (match x with
 | .agg l=>(match qA6 ik l with
   | some ys=>cond (Nat.beq off 0&&(Nat.beq n w&&Nat.beq n (List.length l))) (.ite (Nat.beq w (List.length xs)) (K (.tup []) (h.put k fun u=>.spc u (.arr el ik ys))) .fail) .fail
   | none=>.fail)
 | x=>(match q79 ik x with
   | some v=>cond (Nat.beq n 1) (.ite (Nat.beq w (List.length xs)) (.bind (q8T off v xs) fun ys=>K (.tup []) (h.put k fun u=>.spc u (.arr el ik ys))) .fail) .fail
   | none=>.fail))
theorem qH9 {ik:IntKind}:∀ {l:List SV} {xs:List Int},qA6 ik l=some xs->xs.length=l.length
 | [],xs,e=>by cases e;rfl
 | v::l,xs,e=>by
   unfold qA6 at e;split at e
   ·rename_i x ys hx hy;cases e;simp[qH9 hy]
   ·cases e
theorem qVL {k:Nat}{K:SV->SH->zE9 R}(ho:OkH P h)(hn:szT P t=some n)(hk:slk k h.l=some (.spc w' (.arr el ik xs)))(e:(zB4 P n off w el ik xs k x h K).run=some r) :
 ∃ h',jB P t (.ref k w off) x.enc (qD h.l)=some (qD h'.l)∧Keep h h'∧OkH P h'∧(K (.tup []) h').run=some r:=by
 unfold zB4 at e
 cases hsp:spec P el with
 | true=>rw[hsp] at e;cases e
 | false =>
 rw[hsp] at e;simp only[cond_false] at e;have hp:∀ ys:List Int,Keep h (h.put k fun u=>.spc u (.arr el ik ys))∧OkH P (h.put k fun u=>.spc u (.arr el ik ys)):=fun ys=>jW (f:=fun u=>.spc u (.arr el ik ys)) ho hk rfl
 have pre:jB P t (.ref k w off) x.enc (qD h.l)=cond (Nat.beq w xs.length&&(Nat.beq n (zC x.enc).length&&(Nat.ble (off+n) xs.length&&(pnt x.enc&&(zC x.enc).all fZ)))) (some (xL k ⟨el,false,yH (xs.map fun x=>fvv (.int ik x)) off (zC x.enc)⟩ (qD h.l))) none:=by
  simp only[jB,zM hk,hn];show cond (spec P el) none (cond (Nat.beq w (xs.map fun x=>fvv (.int ik x)).length&&(Nat.beq n (zC x.enc).length&&(Nat.ble (off+n) (xs.map fun x=>fvv (.int ik x)).length&&(pnt x.enc&&(zC x.enc).all fZ)))) _ none)=_;rw[hsp,zNA];rfl
 have fin:∀ ys:List Int,qD (h.put k fun u=>.spc u (.arr el ik ys)).l=xL k ⟨el,false,ys.map fun x=>fvv (.int ik x)⟩ (qD h.l):=fun ys=>xG k _ _
 split at e
 ·rename_i l;split at e
  ·rename_i ys hys;obtain⟨c,e0⟩:=qF e;simp only[zMY] at c;have h0:=zMZ c.1;have h1:=zMZ c.2.1;have h2:=zMZ c.2.2;subst h0
   rcases run_ite e0 with ⟨z,e1⟩ | ⟨_,e1⟩
   ·have hl:=zMZ z;refine⟨_,?_,(hp ys).1,(hp ys).2,e1⟩;rw[pre,fin ys];have hle:=qH9 hys;simp only[SV.enc,zC,wF hys,zNA];rw[z,show Nat.beq n ys.length=true by rw[hle,<-h2];exact aA _,show Nat.ble (0+n) xs.length=true from zNL (by omega),show ((ys.map fun x=>fvv (.int ik x)).all fZ)=true by simp[zM1,fvv,fZ]];simp only[pnt,zNX,cond_true];unfold yH;rw[List.take_zero,zQX (by simp only[zNA];omega)];simp
   ·cases e1
  ·cases e
 ·split at e
  ·rename_i v hv;obtain⟨c,e0⟩:=qF e;have h1:=zMZ c;subst h1
   rcases run_ite e0 with ⟨z,e1⟩ | ⟨_,e1⟩
   ·obtain⟨ys,hys,e2⟩:=run_bind e1;unfold q8T at hys;split at hys
    case isFalse=>cases hys
    rename_i hlt;cases hys;refine⟨_,?_,(hp _).1,(hp _).2,e2⟩;rw[pre,fin,nY hv];rw[show Nat.ble (off+1) xs.length=true from zNL hlt,z];show some (xL k ⟨el,false,yH (xs.map fun x=>fvv (.int ik x)) off [fvv (.int ik v)]⟩ (qD h.l))=_
    have:yH (xs.map fun x=>fvv (.int ik x)) off [fvv (.int ik v)]=(xs.set off v).map fun x=>fvv (.int ik x):=by
     rw[List.map_set,zO8,if_pos (by rw[zNA];exact hlt)];unfold yH;simp
    rw[this]
   ·cases e1
  ·cases e
def qUX (P:Program)(t:TypeId)(a x:SV)(h:SH)(K:SV->SH->zE9 R):zE9 R:=match szT P t with
 | some n=>(match a with
   | .ref k off w=>(match slk k h.l with
     | some (.cells el _ l)=>cond (!(spec P el)&&(Nat.beq w l.length&&(Nat.beq n (yP x).length&&(Nat.ble (off+n) l.length&&(pnt x.enc&&(qB (yP x)).all fZ)))))
        (K (.tup []) (h.put k fun v=>.cells el v (qBN l off (yP x)))) .fail
     | some (.spc _ (.arr el ik xs))=>zB4 P n off w el ik xs k x h K
     | _=>.fail)
   | .elt k g m w j off=>(match slk k h.l with
     | some (.list el gr g' _ t' xs)=>cond (Nat.beq g g'&&(Nat.beq w t'.w&&(Nat.beq n (yP x).length&&(Nat.ble (off+n) w&&(pnt x.enc&&(qB (yP x)).all fZ)))))
        (.bind (xs[j]?) fun y=>match t'.zHV (qBN (t'.svs y) off (yP x)) with
          | some z=>K (.tup []) (h.put k fun v=>.list el gr g v t' (List.set xs j z))
          | none=>.fail) .fail
     | _=>.fail)
   | .rfx k off w=>(match slk k h.l with
     | some (.cells el _ l)=>(match zB1 l with
       | some ik=>(match qA6 ik l,q79 ik x with
         | some xs,some v=>cond (!(spec P el)&&(Nat.beq w l.length&&Nat.beq n 1)) (.bind (q8T off v xs) fun ys=>K (.tup []) (h.put k fun u=>.cells el u (spread ik (List.length xs) ys))) .fail
         | _,_=>.fail)
       | none=>.fail)
     | some (.spc _ (.arr el ik xs))=>zB4 P n off w el ik xs k x h K
     | _=>.fail)
   | .etx k g m w j off=>(match slk k h.l with
     | some (.list el gr g' _ t' xs)=>cond (Nat.beq g g'&&(Nat.beq w t'.w&&Nat.beq n 1)) (.bind (xs[j]?) fun y=>match zB1 (t'.svs y) with
       | some ik=>(match qA6 ik (t'.svs y),q79 ik x with
         | some ys,some v=>.bind (q8T off v ys) fun zs=>match t'.zHV (spread ik (List.length ys) zs) with
           | some z=>K (.tup []) (h.put k fun v=>.list el gr g v t' (List.set xs j z))
           | none=>.fail
         | _,_=>.fail)
       | none=>.fail) .fail
     | _=>.fail)
   | _=>.fail)
 | none=>.fail
theorem qTU {a:SV}{K:SV->SH->zE9 R}(ho:OkH P h)(ha:a.ok h)(hx:x.ok h)(e:(qUX P t a x h K).run=some r) :
 ∃ h',jB P t a.enc x.enc (qD h.l)=some (qD h'.l)∧Keep h h'∧OkH P h'∧(K (.tup []) h').run=some r:=by
 unfold qUX at e;split at e
 ·rename_i n hn;split at e
  ·rename_i k off w;split at e
   ·rename_i el w' l hk;obtain⟨h1,h2⟩:=qF e;rw[zMY,zNJ] at h1;obtain⟨hsp,h1⟩:=h1;have hp:=jW (f:=fun v=>.cells el v (qBN l off (yP x))) ho hk ⟨rfl,qOO (ho.cells _ _ _ _ hk) (qCI hx)⟩;refine⟨_,?_,hp.1,hp.2,h2⟩;simp only[SV.enc,jB,zM hk,hn];show cond (spec P el) none (cond (Nat.beq w (qB l).length&&(Nat.beq n (zC x.enc).length&&(Nat.ble (off+n) (qB l).length&&(pnt x.enc&&(zC x.enc).all fZ)))) _ _)=_;rw[dI,qP,qP,h1,hsp];simp only[cond_true];rw[show qD (h.put k fun v=>.cells el v (qBN l off (yP x))).l=xL k (SO.enc (.cells el h.next (qBN l off (yP x)))) (qD h.l) from xG k _ _];show some (xL k ⟨el,false,yH (qB l) off (qB (yP x))⟩ (qD h.l))=some (xL k ⟨el,false,qB (qBN l off (yP x))⟩ (qD h.l));rw[qCB]
   ·rename_i w' el ik xs hk;obtain⟨h',h1,h2,h3,h4⟩:=qVL (t:=t) ho hn hk e;exact⟨h',by simp only[SV.enc];exact h1,h2,h3,h4⟩
   ·cases e
  ·rename_i k g m w j off;split at e
   ·rename_i el gr g' w' t' xs hk;obtain⟨h1,h2⟩:=qF e;simp only[zMY] at h1;obtain⟨q1,q2,q3,q4,q5,q6⟩:=h1;have hg:g=g':=zMZ q1;have hw:w=t'.w:=zMZ q2;subst hg hw;obtain⟨y,hy,h3⟩:=run_bind h2;split at h3
    ·rename_i z hz;have hp:=jW (f:=fun v=>.list el gr g v t' (List.set xs j z)) ho hk ⟨_,rfl,by simp⟩;refine⟨_,?_,hp.1,hp.2,h3⟩;simp only[SV.ok] at ha;have hm:m=xs.length:=ha.2 _ _ _ _ _ hk;have hle:off+n<=t'.w:=zM9 q4;simp only[SV.enc,jB,zM hk,hn];rw[qR,hm,dI,qP,show spec P (SO.list el gr g w' t' xs).enc.el=false from xR (ho.list _ _ _ _ _ _ _ hk).2.1]
     have hjl:j*t'.w+off+n<=xs.length*t'.w:=by
      have:=qG1 hy hle
      rwa [zU] at this
     rw[q3,q5,q6,show Nat.ble (j*t'.w+off+n) (xs.length*t'.w)=true from zNL hjl];simp only[aA,zNX,cond_true,cond_false];rw[show qD (h.put k fun v=>.list el gr g v t' (List.set xs j z)).l=xL k (SO.enc (.list el gr g h.next t' (List.set xs j z))) (qD h.l) from xG k _ _];show some (xL k ⟨el,gr,yH ((xs.flatMap t'.cells).map .f) (j*t'.w+off) (qB (yP x))⟩ (qD h.l))=some (xL k ⟨el,gr,((List.set xs j z).flatMap t'.cells).map .f⟩ (qD h.l));have hnl:n=(qB (yP x)).length:=by rw[qP];exact zMZ q3
     rw[qEW hy (y:=z) (by rw[<-hnl];exact hle) (by rw[<-gQ,<-qCB];exact nK hz)]
    ·cases h3
   ·cases e
  ·rename_i k off w;split at e
   ·rename_i el w' l hk;split at e
    ·rename_i ik hik;split at e
     ·rename_i xs v hxs hv;obtain⟨h1,h2⟩:=qF e;simp only[zMY,zNJ] at h1;obtain⟨hsp,hw,hn1⟩:=h1;have hn2:=zMZ hn1;subst hn2;obtain⟨ys,hys,h3⟩:=run_bind h2;unfold q8T at hys;split at hys
      case isFalse=>cases hys
      rename_i hlt;cases hys;have hp:=jW (f:=fun u=>.cells el u (spread ik (List.length xs) (xs.set off v))) ho hk ⟨rfl,qKL⟩;refine⟨_,?_,hp.1,hp.2,h3⟩;have hel:=wF hxs;have hll:(qB l).length=xs.length:=by rw[hel,zNA]
      simp only[SV.enc,jB,zM hk,hn];rw[nY hv];show cond (spec P el) none (cond (Nat.beq w (qB l).length&&(Nat.beq 1 1&&(Nat.ble (off+1) (qB l).length&&(true&&true)))) (some (xL k ⟨el,false,yH (qB l) off [fvv (.int ik v)]⟩ (qD h.l))) none)=_;rw[hsp,show Nat.beq w (qB l).length=true by rw[qP];exact hw,hll,show Nat.ble (off+1) xs.length=true from zNL hlt];rw[show qD (h.put k fun u=>.cells el u (spread ik (List.length xs) (xs.set off v))).l=xL k (SO.enc (.cells el h.next (spread ik (List.length xs) (xs.set off v)))) (qD h.l) from xG k _ _];show some (xL k ⟨el,false,yH (qB l) off [fvv (.int ik v)]⟩ (qD h.l))=some (xL k ⟨el,false,qB (spread ik (List.length xs) (xs.set off v))⟩ (qD h.l));rw[rE (by simp),hel]
      have:yH (xs.map fun x=>fvv (.int ik x)) off [fvv (.int ik v)]=(xs.set off v).map fun x=>fvv (.int ik x):=by
       rw[List.map_set,zO8,if_pos (by rw[zNA];exact hlt)];unfold yH;simp
      rw[this]
     ·cases e
    ·cases e
   ·rename_i w' el ik xs hk;obtain⟨h',h1,h2,h3,h4⟩:=qVL (t:=t) ho hn hk e;exact⟨h',by simp only[SV.enc];exact h1,h2,h3,h4⟩
   ·cases e
  ·rename_i k g m w j off;split at e
   ·rename_i el gr g' w' t' xs hk;obtain⟨h1,h2⟩:=qF e;simp only[zMY] at h1;obtain⟨q1,q2,q3⟩:=h1;have hg:g=g':=zMZ q1;have hw:w=t'.w:=zMZ q2;have hn2:=zMZ q3;subst hg hw hn2;obtain⟨y,hy,h3⟩:=run_bind h2;split at h3
    ·rename_i ik hik;split at h3
     ·rename_i ys v hys hv;obtain⟨zs,hzs,h4⟩:=run_bind h3;split at h4
      ·rename_i z hz;unfold q8T at hzs;split at hzs
       case isFalse=>cases hzs
       rename_i hlt;cases hzs;have hp:=jW (f:=fun v=>.list el gr g v t' (List.set xs j z)) ho hk ⟨_,rfl,by simp⟩;refine⟨_,?_,hp.1,hp.2,h4⟩;simp only[SV.ok] at ha;have hm:m=xs.length:=ha.2 _ _ _ _ _ hk;have hel:=wF hys
       have hcw:ys.length=t'.w:=by
        have:=congrArg List.length hel;rw[gQ,zNA,zNA,t'.zFJ] at this;exact this.symm
       have hle:off+1<=t'.w:=by omega
       simp only[SV.enc,jB,zM hk,hn];rw[qR,hm,nY hv,show spec P (SO.list el gr g w' t' xs).enc.el=false from xR (ho.list _ _ _ _ _ _ _ hk).2.1]
       have hjl:j*t'.w+off+1<=xs.length*t'.w:=by
        have:=qG1 hy hle
        rwa [zU] at this
       rw[show Nat.ble (j*t'.w+off+1) (xs.length*t'.w)=true from zNL hjl];simp only[aA,cond_false];show some (xL k ⟨el,gr,yH ((xs.flatMap t'.cells).map .f) (j*t'.w+off) [fvv (.int ik v)]⟩ (qD h.l))=_;rw[show qD (h.put k fun v=>.list el gr g v t' (List.set xs j z)).l=xL k (SO.enc (.list el gr g h.next t' (List.set xs j z))) (qD h.l) from xG k _ _];show _=some (xL k ⟨el,gr,((List.set xs j z).flatMap t'.cells).map .f⟩ (qD h.l));rw[qEW hy (y:=z) hle ?_];rw[<-nK hz,rE (by simp),<-gQ,hel,List.map_set,zO8,if_pos (by rw[zNA];exact hlt)];unfold yH;simp
      ·cases h4
     ·cases h3
    ·cases h3
   ·cases e
  ·cases e
 ·cases e
end
end Go.Sv
namespace Go.Sv
open Go.Idl
noncomputable section
variable [Gc]
variable [Yl]
variable {P:Program}{h:SH}{R:Type}{r:R}
def tyL:List (Option Ty)->Option Ty
 | []=>some .unit
 | [t]=>t.map fun t=>.pair t .unit
 | [a,b]=>match a,b with
   | some a,some b=>some (.pair a b)
   | _,_=>none
 | a::l=>match a,tyL l with
   | some a,some b=>some (.pair a b)
   | _,_=>none
def zEH (P:Program)(t:TypeId):Option Ty:=match P.underlying t with
 | some (.slice el)=>(match P.underlying el with
   | some (.int k)=>some (.ol el k)
   | _=>none)
 | _=>none
def qED (P:Program):Nat->TypeId->Option Ty
 | 0,_=>none
 | n+1,t=>match P.underlying t with
   | some (.int k)=>some (.int k)
   | some .bool=>some .bool
   | some .string=>some .str
   | some (.slice el)=>(match qED P n el with
     | some u=>some (.list el u)
     | none=>none)
   | some (.struct fields)=>tyL (fields.toList.map fun f=>cond (Gc.ol f.type) (zEH P f.type) (qED P n f.type))
   | some (.array k el)=>tyL (List.replicate k (qED P n el))
   | some (.interface ..)=>some .nif
   | _=>none
def zcS (P:Program)(t:TypeId):Option (List SV):=match qCC P t with
 | some z=>cond (jZ okC z.cells.toList) (some (kP .c z.cells.toList)) none
 | none=>none
theorem mQ {t:TypeId}{l:List SV}(e:zcS P t=some l):zc P t=some (qB l)∧okL h l:=by
 unfold zcS at e;unfold zc;split at e
 ·rename_i z hz
  cases hc:jZ okC z.cells.toList with
  | false=>rw[hc] at e;cases e
  | true =>
    rw[hc] at e;cases e;rw[hz];simp only[hc,cond_true];exact⟨by rw[zCB],zB2 _⟩
 ·cases e
def zDL (P:Program)(el:TypeId)(l:List SV):Option (Nat×IntKind×List Int):=match qPV P el with
 | some (m,e2)=>(match qED P 8 e2 with
   | some (.int ik)=>(match qA6 ik l with
     | some xs=>cond (Nat.beq l.length m) (some (m,ik,xs)) none
     | none=>none)
   | _=>none)
 | none=>none
theorem qPS {el:TypeId}{l:List SV}{p:Nat×IntKind×List Int}(e:zDL P el l=some p):qB l=(p.2.2.map fun x=>fvv (.int p.2.1 x))∧l.length=p.1:=by
 unfold zDL at e;split at e
 ·split at e
  ·split at e
   ·rename_i xs hx;obtain⟨hc,e⟩:=nG e;cases e;exact⟨wF hx,zMZ hc⟩
   ·cases e
  ·cases e
 ·cases e
def qXF (P:Program)(el:TypeId)(k:Nat)(h:SH)(K:SV->SH->zE9 R):zE9 R:=match zcS P el with
 | some l=>cond (spec P el) .fail (match zDL P el l with
   | some p=>K (.ref k 0 p.1) (h.new k fun v=>.spc v (.arr el p.2.1 p.2.2))
   | none=>K (.ref k 0 l.length) (h.new k fun v=>.cells el v l))
 | none=>.fail
theorem qUZ {el:TypeId}{k:Nat}{K:SV->SH->zE9 R}(ho:OkH P h)(e:(qXF P el k h K).run=some r):∃ v h',dQ P el k (qD h.l)=some (v.enc,qD h'.l)∧Post P h h' v∧(K v h').run=some r:=by
 unfold qXF at e;split at e
 ·rename_i l hl;obtain⟨h1,h2⟩:=mQ (h:=h) hl;have hp:=yN (k:=k) (f:=fun v=>.cells el v l) ho ⟨rfl,h2⟩
  cases hsp:spec P el with
  | true=>rw[hsp] at e;cases e
  | false =>
  rw[hsp] at e;simp only[cond_false] at e;split at e
  ·rename_i p hpa;have hp:=yN (k:=k) (f:=fun v=>.spc v (.arr el p.2.1 p.2.2)) ho rfl;refine⟨_,_,?_,⟨hp.1,hp.2,by simp[SV.ok]⟩,e⟩;simp only[dQ,h1,qCP,SV.enc,qP,hsp,cond_false];rw[<- (qPS hpa).2,(qPS hpa).1];rfl
  ·refine⟨_,_,?_,⟨hp.1,hp.2,by simp[SV.ok]⟩,e⟩;simp only[dQ,h1,qCP,SV.enc,qP,hsp,cond_false];rfl
 ·cases e
def zEN (P:Program)(el:TypeId)(v:SV)(k:Nat)(h:SH)(K:SV->SH->zE9 R):zE9 R :=
 cond (!(spec P el)&&(pnt v.enc&&(qB (yP v)).all fZ)) (K (.ref k 0 (yP v).length) (h.new k fun n=>.cells el n (yP v))) .fail
theorem q71 {el:TypeId}{v:SV}{k:Nat}{K:SV->SH->zE9 R}(ho:OkH P h)(hv:v.ok h)(e:(zEN P el v k h K).run=some r):∃ x h',q2P P el v.enc k (qD h.l)=some (x.enc,qD h'.l)∧Post P h h' x∧(K x h').run=some r:=by
 obtain⟨h1,h2⟩:=qF e;have hp:=yN (k:=k) (f:=fun n=>.cells el n (yP v)) ho ⟨rfl,qCI hv⟩;refine⟨_,_,?_,⟨hp.1,hp.2,by simp[SV.ok]⟩,h2⟩;unfold q2P;rw[dI,h1];simp only[cond_true,qCP,SV.enc,qP];rfl
def qRL (place:Nat->Option (Nat×Nat)):List SV->List (Nat×SV)->Option (List SV)
 | cells,[]=>some cells
 | cells,(i,v)::rest=>match place i with
   | some (off,size)=>cond (Nat.beq (yP v).length size&&(Nat.ble (off+size) cells.length&&(pnt v.enc&&(qB (yP v)).all fZ))) (qRL place (qBN cells off (yP v)) rest) none
   | none=>none
def q8V (l:List (Nat×SV)):List (Nat×PV):=l.map fun p=>(p.1,p.2.enc)
theorem oI {place:Nat->Option (Nat×Nat)}:∀ {l cs:List SV} {parts:List (Nat×SV)},qRL place l parts=some cs->qJF place (qB l) (q8V parts)=some (qB cs)∧(okL h l->(∀ p∈parts,p.2.ok h)->okL h cs)
 | l,cs,[],e=>by cases e;exact⟨rfl,fun a _=>a⟩
 | l,cs,(i,v)::rest,e=>by
   unfold qRL at e;split at e
   ·rename_i off size hpl
    cases hc:(Nat.beq (yP v).length size&&(Nat.ble (off+size) l.length&&(pnt v.enc&&(qB (yP v)).all fZ))) with
    | false=>rw[hc] at e;cases e
    | true =>
      rw[hc] at e;obtain⟨h1,h2⟩:=oI (l:=qBN l off (yP v)) e;refine⟨?_,fun a b=>h2 (qOO a (qCI (b _ zM5))) fun p hp=>b p (zM3 _ hp)⟩
      show (match place i with
       | some (off,size)=>cond (Nat.beq (zC v.enc).length size&&(Nat.ble (off+size) (qB l).length&&(pnt v.enc&&(zC v.enc).all fZ))) (qJF place (yH (qB l) off (zC v.enc)) (q8V rest)) none
       | none=>none)=some (qB cs)
      rw[hpl];simp only;rw[dI,qP,qP,hc,<-qCB];exact h1
   ·cases e
def qXU (P:Program)(t:TypeId)(parts:List (Nat×SV)):Option SV:=match zcS P t with
 | some z=>cond (qBY P t) (match qRL (qXA P t) z parts with
   | some cs=>some (.agg cs)
   | none=>none) none
 | none=>none
theorem qVP {t:TypeId}{parts:List (Nat×SV)}{v:SV}(hp:∀ p∈parts,p.2.ok h)(e:qXU P t parts=some v):qH6 P t (q8V parts)=some v.enc∧v.ok h:=by
 unfold qXU at e;split at e
 ·rename_i z hz;obtain⟨h1,h2⟩:=mQ (h:=h) hz
  cases hb:qBY P t with
  | false=>rw[hb] at e;cases e
  | true =>
    rw[hb] at e;simp only[cond_true] at e;split at e
    ·rename_i cs hcs;cases e;obtain⟨h3,h4⟩:=oI (h:=h) hcs;simp only[qH6,h1,hb,cond_true,h3,SV.enc,SV.ok,true_and];exact h4 h2 hp
    ·cases e
 ·cases e
def Ty.zJJ (t:Ty):Nat->List SV->Option (List t.sem)
 | 0,[]=>some []
 | 0,_::_=>none
 | n+1,l=>match t.zH7 l with
   | some (x,l')=>(match t.zJJ n l' with
     | some xs=>some (x::xs)
     | none=>none)
   | none=>none
theorem qPF {t:Ty}:∀ {n:Nat} {l:List SV} {xs:List t.sem},t.zJJ n l=some xs->qB l=(xs.flatMap t.cells).map .f∧xs.length=n
 | 0,[],xs,e=>by cases e;simp[qB]
 | 0,_::_,xs,e=>by cases e
 | n+1,l,xs,e=>by
   unfold Ty.zJJ at e;split at e
   ·rename_i x l' hx;split at e
    ·rename_i ys hy;cases e;obtain⟨h1,h2⟩:=qPF hy;rw[tQ hx,h1,zNQ,zN6];exact⟨rfl,by rw[zNZ,h2]⟩
    ·cases e
   ·cases e
def qR5 (n:Nat)(z:List SV):List SV:=(List.replicate n z).flatten
theorem tV (n:Nat)(z:List SV):qB (qR5 n z)=qHP n (qB z):=by simp[qR5,qHP,zD,List.map_flatten]
def mJ (P:Program)(t:TypeId)(len:Nat)(parts:List (Nat×SV))(k:Nat)(h:SH)(K:SV->SH->zE9 R):zE9 R:=match zR P t with
 | some el=>(match szT P el,zcS P el,qED P 8 el with
   | some (s+1),some z,some ty=>cond (Nat.beq ty.w (s+1)) (cond (Nat.beq z.length (s+1)&&Nat.ble (len*(s+1)) 65536) (match qRL (fun i=>some (i*(s+1),s+1)) (qR5 len z) parts with
     | some cs=>(match ty.zJJ len cs with
       | some xs=>K (.own k h.next len) (h.new k fun v=>.list el false v v ty xs)
       | none=>K (.own k h.next len) (h.new k fun v=>.cells el v cs))
     | none=>.fail) .fail) .fail
   | some (s+1),some z,none=>cond (Nat.beq z.length (s+1)&&Nat.ble (len*(s+1)) 65536) (match qRL (fun i=>some (i*(s+1),s+1)) (qR5 len z) parts with
     | some cs=>K (.own k h.next len) (h.new k fun v=>.cells el v cs)
     | none=>.fail) .fail
   | _,_,_=>.fail)
 | none=>.fail
omit [Yl] in
theorem jK {el:TypeId}{gr:Bool}{k n:Nat}{ty:Ty}{xs:List ty.sem}(hn:n=xs.length):(SV.own k h.next n).ok (h.new k fun v=>.list el gr v v ty xs):=by
 simp only[SV.ok];refine⟨zNV _,fun el' gr' w' t' xs' hk=>?_⟩;rw[show slk k (h.new k fun v=>.list el gr v v ty xs).l=some (.list el gr h.next h.next ty xs) from kU] at hk;cases hk;exact hn
theorem qDJ {t:TypeId}{len k:Nat}{parts:List (Nat×SV)}{K:SV->SH->zE9 R}(ho:OkH P h)(hp:∀ p∈parts,p.2.ok h)(e:(mJ P t len parts k h K).run=some r) :
 ∃ v h',z8 P t len (q8V parts) k (qD h.l)=some (v.enc,qD h'.l)∧Post P h h' v∧(K v h').run=some r:=by
 unfold mJ at e;split at e
 ·rename_i el hel;split at e
  ·rename_i s z ty hs hz hty;obtain⟨e1,e⟩:=qF e;obtain⟨e2,e⟩:=qF e;split at e
   ·rename_i cs hcs;split at e
    ·rename_i xs hxs;obtain⟨z1,z2⟩:=mQ (h:=h) hz;obtain⟨f1,f2⟩:=oI (h:=h) hcs;obtain⟨d1,d2⟩:=qPF hxs;have hw:ty.w=s+1:=zMZ e1;have hn:=yN (k:=k) (f:=fun v=>.list el false v v ty xs) ho ⟨rfl,rfl,by rw[hs,hw],by omega⟩;refine⟨_,_,?_,⟨hn.1,hn.2,jK d2.symm⟩,e⟩;rw[tV] at f1;simp only[z8,hel,hs,z1,qP,e2,cond_true,f1,qCP,SV.enc,d1];rfl
    ·obtain⟨z1,z2⟩:=mQ (h:=h) hz;obtain⟨f1,f2⟩:=oI (h:=h) hcs
     have zIX:okL h cs:=f2 (zK.2 fun x hx=>by
      unfold qR5 at hx;obtain⟨l,hl,hx⟩:=zP4.1 hx;rw[zQS hl] at hx
      exact zK.1 z2 x hx) hp
     have hn:=yN (k:=k) (f:=fun v=>.cells el v cs) ho ⟨rfl,zIX⟩;refine⟨_,_,?_,⟨hn.1,hn.2,?_⟩,e⟩
     ·rw[tV] at f1;simp only[z8,hel,hs,z1,qP,e2,cond_true,f1,qCP,SV.enc];rfl
     ·simp only[SV.ok];refine⟨zNV _,fun el' gr' w' t' xs' hk=>?_⟩;rw[show slk k (h.new k fun v=>.cells el v cs).l=some (.cells el h.next cs) from kU] at hk;cases hk
   ·cases e
  ·rename_i s z hs hz hty;obtain⟨e2,e⟩:=qF e;split at e
   ·rename_i cs hcs;obtain⟨z1,z2⟩:=mQ (h:=h) hz;obtain⟨f1,f2⟩:=oI (h:=h) hcs
    have zIX:okL h cs:=f2 (zK.2 fun x hx=>by
     unfold qR5 at hx;obtain⟨l,hl,hx⟩:=zP4.1 hx;rw[zQS hl] at hx
     exact zK.1 z2 x hx) hp
    have hn:=yN (k:=k) (f:=fun v=>.cells el v cs) ho ⟨rfl,zIX⟩;refine⟨_,_,?_,⟨hn.1,hn.2,?_⟩,e⟩
    ·rw[tV] at f1;simp only[z8,hel,hs,z1,qP,e2,cond_true,f1,qCP,SV.enc];rfl
    ·simp only[SV.ok];refine⟨zNV _,fun el' gr' w' t' xs' hk=>?_⟩;rw[show slk k (h.new k fun v=>.cells el v cs).l=some (.cells el h.next cs) from kU] at hk;cases hk
   ·cases e
  ·cases e
 ·cases e
def q6Q (P:Program)(t:TypeId)(l:SV)(k:Nat)(h:SH)(K:SV->SH->zE9 R):zE9 R:=match zR P t,asI l with
 | some el,some (_,n)=>cond (zR P el).isSome (match szT P el,zcS P el with
   | some (s+1),some z=>cond (kK P el&&Nat.beq z.length (s+1)) (.bind (mkN n) fun N=>K (.own k h.next N) (h.new k fun v=>.cells el v (qR5 N z))) .fail
   | _,_=>.fail) (match szT P el,zcS P el,qED P 8 el with
   | some (s+1),some z,some ty=>cond (kK P el&&(Nat.beq z.length (s+1)&&Nat.beq ty.w (s+1))) (match ty.zHV z with
     | some z0=>.bind (mkN n) fun N=>K (.own k h.next N) (h.new k fun v=>.list el false v v ty (List.replicate N z0))
     | none=>.fail) .fail
   | _,_,_=>.fail)
 | _,_=>.fail
omit [Yl] in
theorem qQN {t:Ty}{z:t.sem}:∀ (n:Nat),((List.replicate n z).flatMap t.cells).map PV.f=qHP n ((t.cells z).map .f)
 | 0=>rfl
 | n+1=>by
   rw[zOV,zNQ,zN6,qQN n];simp[qHP,zOV]
theorem q0S {t:TypeId}{l:SV}{k:Nat}{K:SV->SH->zE9 R}(ho:OkH P h)(e:(q6Q P t l k h K).run=some r) :
 ∃ v h',y8 P t l.enc l.enc k (qD h.l)=some (v.enc,qD h'.l)∧Post P h h' v∧(K v h').run=some r:=by
 unfold q6Q at e;split at e
 ·rename_i el ki n hel hl
  cases hb:(zR P el).isSome with
  | true =>
    rw[hb] at e;simp only[cond_true] at e;split at e
    ·rename_i s z hs hz;obtain⟨e1,e⟩:=qF e;obtain⟨N,hN,e⟩:=run_bind e;obtain⟨z1,z2⟩:=mQ (h:=h) hz
     have zIX:okL h (qR5 N z):=zK.2 fun x hx=>by
      unfold qR5 at hx;obtain⟨l,hl,hx⟩:=zP4.1 hx;rw[zQS hl] at hx;exact zK.1 z2 x hx
     have hn:=yN (k:=k) (f:=fun v=>.cells el v (qR5 N z)) ho ⟨rfl,zIX⟩;refine⟨_,_,?_,⟨hn.1,hn.2,?_⟩,e⟩
     ·rw[yD hl];simp only[y8,fvv,hel,decide_true,cond_true,hN,hs,z1,qP,e1,qCP,SV.enc];show some (PV.own k N 0 N,(k,(⟨el,false,qHP N (qB z)⟩:PO))::qD h.l)=some (PV.own k N 0 N,(k,⟨el,false,qB (qR5 N z)⟩)::qD h.l);rw[tV]
     ·simp only[SV.ok];refine⟨zNV _,fun el' gr' w' t' xs' hk=>?_⟩;rw[show slk k (h.new k fun v=>.cells el v (qR5 N z)).l=some (.cells el h.next (qR5 N z)) from kU] at hk;cases hk
    ·cases e
  | false =>
  rw[hb] at e;simp only[cond_false] at e;split at e
  ·rename_i s z ty hs hz hty;obtain⟨e1,e⟩:=qF e;simp only[zMY] at e1;obtain⟨q1,q2,q3⟩:=e1;split at e
   ·rename_i z0 hz0;obtain⟨N,hN,e⟩:=run_bind e;obtain⟨z1,z2⟩:=mQ (h:=h) hz;have hw:ty.w=s+1:=zMZ q3;have hn:=yN (k:=k) (f:=fun v=>.list el false v v ty (List.replicate N z0)) ho ⟨rfl,rfl,by rw[hs,hw],by omega⟩;refine⟨_,_,?_,⟨hn.1,hn.2,jK (xs:=List.replicate N z0) (by simp)⟩,e⟩;rw[yD hl];simp only[y8,fvv,hel,decide_true,cond_true,hN,hs,z1,qP,q1,q2,zNX,qCP,SV.enc];show some (PV.own k N 0 N,(k,(⟨el,false,qHP N (qB z)⟩:PO))::qD h.l)=some (PV.own k N 0 N,(k,⟨el,false,((List.replicate N z0).flatMap ty.cells).map PV.f⟩)::qD h.l);rw[qQN,nK hz0]
   ·cases e
  ·cases e
 ·cases e
def qV8 (h:SH):SV->Bool
 | .ref k _ w=>match slk k h.l with
   | some (.cells _ _ l)=>Nat.beq w l.length
   | _=>false
 | .elt k g _ w _ _=>match slk k h.l with
   | some (.list _ _ g' _ t _)=>Nat.beq g g'&&Nat.beq w t.w
   | _=>false
 | .lp _ _ _ _=>true
 | _=>false
theorem qGO {k off w:Nat}(e:qV8 h (.ref k off w)=true):live? k w (qD h.l)=true:=by
 simp only[qV8] at e;split at e
 ·rename_i el w' l hk;unfold live?;rw[zM hk];show Nat.beq w (qB l).length=true;rw[qP];exact e
 ·cases e
theorem qGF {k g n w j off:Nat}(ho:(SV.elt k g n w j off).ok h)(e:qV8 h (.elt k g n w j off)=true):live? k (n*w) (qD h.l)=true:=by
 simp only[qV8] at e;split at e
 ·rename_i el gr g' w' t xs hk;rw[zMY] at e;have hg:g=g':=zMZ e.1;have hw:w=t.w:=zMZ e.2;subst hg hw;simp only[SV.ok] at ho;unfold live?;rw[zM hk];show Nat.beq (n*t.w) (SO.list el gr g w' t xs).enc.cs.length=true;rw[qR,ho.2 _ _ _ _ _ hk];exact aA _
 ·cases e
def q7T (h:SH)(x:SV)(T:zE9 R):zE9 R:=match x with
 | .ref k _ w=>(match slk k h.l with
   | some (.spc _ (.arr _ _ xs))=>.ite (Nat.beq w (List.length xs)) T .fail
   | some (.cells _ _ l)=>cond (Nat.beq w l.length) T .fail
   | _=>.fail)
 | x=>cond (qV8 h x) T .fail
theorem qZQ {x:SV}{T:zE9 R}(e:(q7T h x T).run=some r):T.run=some r∧(∀ k o w,x=.ref k o w->live? k w (qD h.l)=true)∧(∀ k g n w j o,x=.elt k g n w j o->qV8 h x=true):=by
 unfold q7T at e;split at e
 ·rename_i k o w;split at e
  ·rename_i w' el ik xs hk
   rcases run_ite e with ⟨z,e1⟩ | ⟨_,e1⟩
   ·refine⟨e1,fun k' o' w2 h=>?_,fun _ _ _ _ _ _ h=>by cases h⟩;cases h;unfold live?;rw[zM hk];show Nat.beq w (xs.map fun x=>fvv (.int ik x)).length=true;rw[zNA];exact z
   ·cases e1
  ·rename_i el w' l hk;obtain⟨z,e1⟩:=qF e;refine⟨e1,fun k' o' w2 h=>?_,fun _ _ _ _ _ _ h=>by cases h⟩;cases h;exact qGO (off:=o) (by simp only[qV8,hk];exact z)
  ·cases e
 ·rename_i hne;obtain⟨z,e1⟩:=qF e;exact⟨e1,fun k o w h=>absurd h (hne k o w),fun _ _ _ _ _ _ _=>z⟩
def qNK (n:Nat):SV->SV
 | .ref k off w=>.ref k (off+n) w
 | .elt k g m w j off=>.elt k g m w j (off+n)
 | .lp t xs j off=>.lp t xs j (off+n)
 | v=>v
def zED:SV->Bool
 | .ref _ _ _=>true
 | .elt _ _ _ _ _ _=>true
 | .lp _ _ _ _=>true
 | _=>false
omit [Yl] in
theorem qVE {n:Nat}{v:SV}(hv:v.ok h):(qNK n v).ok h:=by
 cases v <;> simp only[qNK,SV.ok] at hv ⊢ <;> exact hv
def pR (P:Program)(t:TypeId)(x:SV)(i:Nat)(h:SH):Option SV:=match zB9 P t i with
 | some (off,ft)=>(match szT P ft with
   | some (_+1)=>cond (qV8 h x) (some (qNK off x)) none
   | _=>none)
 | none=>none
theorem qGH {t:TypeId}{x v:SV}{i:Nat}(hx:x.ok h)(e:pR P t x i h=some v):zX P t x.enc i (qD h.l)=some v.enc∧v.ok h:=by
 unfold pR at e;unfold zX;split at e
 ·rename_i off ft hf;split at e
  ·rename_i s hs
   cases hl:qV8 h x with
   | false=>rw[hl] at e;cases e
   | true =>
     rw[hl] at e;cases e;refine⟨?_,qVE hx⟩;simp only[hf,hs]
     cases x with
     | ref k o w=>simp only[SV.enc,qNK,qGO hl,cond_true]
     | elt k g n w j o=>simp only[SV.enc,qNK,qGF hx hl,cond_true,zOW]
     | lp t xs j o=>simp only[SV.enc,qNK,zOW]
     | _=>cases hl
  ·cases e
 ·cases e
def zDE (n:Nat)(ix:SV)(K:Nat->zE9 R):zE9 R:=match ix with
 | .c (.int _ i)=>(match idx n i with
   | some j=>K j
   | none=>.fail)
 | v=>(match asI v with
   | some (_,i)=>.bind (idx n i) K
   | none=>.fail)
theorem q70 {n:Nat}{ix:SV}{K:Nat->zE9 R}(e:(zDE n ix K).run=some r):∃ k i j,ix.enc=fvv (.int k i)∧idx n i=some j∧(K j).run=some r:=by
 unfold zDE at e;split at e
 ·rename_i k i;split at e
  ·rename_i j hj;exact⟨k,i,j,by simp[SV.enc],hj,e⟩
  ·cases e
 ·split at e
  ·rename_i k i hi;obtain⟨j,hj,e⟩:=run_bind e;exact⟨k,i,j,yD hi,hj,e⟩
  ·cases e
def q5M (n:Nat)(ix:SV)(K K2:Nat->zE9 R):zE9 R:=match ix with
 | .c (.int _ i)=>(match idx n i with
   | some j=>K j
   | none=>.fail)
 | v=>(match asI v with
   | some (_,i)=>.bind (idx n i) K2
   | none=>.fail)
theorem q0U {n:Nat}{ix:SV}{K K2:Nat->zE9 R}(e:(q5M n ix K K2).run=some r):∃ k i j,ix.enc=fvv (.int k i)∧idx n i=some j∧((K j).run=some r∨(K2 j).run=some r):=by
 unfold q5M at e;split at e
 ·rename_i k i;split at e
  ·rename_i j hj;exact⟨k,i,j,by simp[SV.enc],hj,.inl e⟩
  ·cases e
 ·split at e
  ·rename_i k i hi;obtain⟨j,hj,e⟩:=run_bind e;exact⟨k,i,j,yD hi,hj,.inr e⟩
  ·cases e
def zBR (n:Nat):SV->SV
 | .ref k off w=>.rfx k (off+n) w
 | .elt k g m w j off=>.etx k g m w j (off+n)
 | v=>qNK n v
omit [Yl] in
theorem q6D {n:Nat}{v:SV}(hv:v.ok h):(zBR n v).ok h:=by
 cases v <;> simp only[zBR,qNK,SV.ok] at hv ⊢ <;> exact hv
theorem q1E {n:Nat}{v:SV}(hv:zED v=true):(zBR n v).enc=(qNK n v).enc:=by
 cases v <;> first | rfl | (simp only[zBR,qNK,SV.enc])
def pG (P:Program)(t:TypeId)(x ix:SV)(h:SH)(K:SV->zE9 R):zE9 R:=match x with
 | .d (.list el u) xs=>(match asI ix,zR P t with
   | some (_,i),some el'=>(match szT P el' with
     | some s=>cond (Nat.beq s u.w) (.bind (idx (List.length xs) i) fun j=>K (.lp u xs j 0)) .fail
     | none=>.fail)
   | _,_=>.fail)
 | .own k g n=>(match asI ix,zR P t,slk k h.l with
   | some (_,i),some el',some (.list el _ g' _ u _)=>cond (Nat.beq el' el&&Nat.beq g g') (.bind (idx n i) fun j=>K (.elt k g n u.w j 0)) .fail
   | some (_,i),some el',some (.cells el _ cs)=>(match szT P el with
     | some s=>cond (Nat.beq el' el&&Nat.beq (n*s) cs.length) (.bind (idx n i) fun j=>K (.ref k (j*s) cs.length)) .fail
     | none=>.fail)
   | _,_,_=>.fail)
 | .sl k g n o m=>(match asI ix,zR P t,slk k h.l with
   | some (_,i),some el',some (.list el _ g' _ u _)=>cond (Nat.beq el' el&&Nat.beq g g') (.bind (idx m i) fun j=>K (.elt k g n u.w (o+j) 0)) .fail
   | _,_,_=>.fail)
 | x=>(match qPV P t with
   | some (n,el)=>(match szT P el with
     | some s=>cond (zED x) (q7T h x (q5M n ix (fun j=>K (qNK (j*s) x)) fun j=>K (zBR (j*s) x))) .fail
     | none=>.fail)
   | none=>.fail)
theorem qGS {t:TypeId}{x ix:SV}{K:SV->zE9 R}(ho:OkH P h)(hx:x.ok h)(e:(pG P t x ix h K).run=some r):∃ v,qZ P t x.enc ix.enc (qD h.l)=some v.enc∧v.ok h∧(K v).run=some r:=by
 unfold pG at e;split at e
 ·rename_i el u xs;split at e
  ·rename_i k i el' hi hel;split at e
   ·rename_i s hs;obtain⟨h1,e1⟩:=qF e;obtain⟨j,hj,e2⟩:=run_bind e1;have hw:s=u.w:=zMZ h1;subst hw;refine⟨_,?_,by simp[SV.ok],e2⟩;rw[yD hi];simp only[SV.enc,Ty.fv,fvv,qZ,hel,hs,hj,zPL]
   ·cases e
  ·cases e
 ·rename_i k g n;split at e
  ·rename_i ki i el' el gr g' w u xs hi hel hk;obtain⟨h1,e1⟩:=qF e;obtain⟨j,hj,e2⟩:=run_bind e1;rw[zMY] at h1;have hg:g=g':=zMZ h1.2;subst hg;simp only[SV.ok] at hx;have hn:=hx.2 _ _ _ _ _ hk;have hl:=ho.list _ _ _ _ _ _ _ hk;refine⟨_,?_,by simp only[SV.ok];exact hx,e2⟩;rw[yD hi];simp only[SV.enc,fvv,qZ,hel,zM hk]
   show (match szT P el with
    | some s=>(match idx n i with
      | some j=>cond (Nat.beq el' el&&Nat.beq (n*s) (SO.list el gr g w u xs).enc.cs.length) (some (PV.ref k (SO.list el gr g w u xs).enc.cs.length ((0+j)*s))) none
      | none=>none)
    | none=>none)=_
   rw[hl.2.1,hj];simp only[qR,hn,aA,h1.1,zNX,cond_true,zNY,zPL]
  ·rename_i ki i el' el w cs hi hel hk;split at e
   ·rename_i s hs;obtain⟨h1,e1⟩:=qF e;obtain⟨j,hj,e2⟩:=run_bind e1;refine⟨_,?_,by simp[SV.ok],e2⟩;rw[yD hi];simp only[SV.enc,fvv,qZ,hel,zM hk]
    show (match szT P el with
     | some s=>(match idx n i with
       | some j=>cond (Nat.beq el' el&&Nat.beq (n*s) (qB cs).length) (some (PV.ref k (qB cs).length ((0+j)*s))) none
       | none=>none)
     | none=>none)=_
    rw[hs,hj];simp only[qP,h1,cond_true,zNY]
   ·cases e
  ·cases e
 ·rename_i k g n o m;split at e
  ·rename_i ki i el' el gr g' w u xs hi hel hk;obtain⟨h1,e1⟩:=qF e;obtain⟨j,hj,e2⟩:=run_bind e1;rw[zMY] at h1;have hg:g=g':=zMZ h1.2;subst hg;simp only[SV.ok] at hx;have hn:=hx.1.2 _ _ _ _ _ hk;have hl:=ho.list _ _ _ _ _ _ _ hk;refine⟨_,?_,by simp only[SV.ok];exact hx.1,e2⟩;rw[yD hi];simp only[SV.enc,fvv,qZ,hel,zM hk]
   show (match szT P el with
    | some s=>(match idx m i with
      | some j=>cond (Nat.beq el' el&&Nat.beq (n*s) (SO.list el gr g w u xs).enc.cs.length) (some (PV.ref k (SO.list el gr g w u xs).enc.cs.length ((o+j)*s))) none
      | none=>none)
    | none=>none)=_
   rw[hl.2.1];simp only[hj,qR,hn,aA,h1.1,zNX,cond_true,zPL]
  ·cases e
 ·split at e
  ·rename_i n el ha;split at e
   ·rename_i s hs;obtain⟨h1,e⟩:=qF e;obtain⟨e,h2,h3⟩:=qZQ e;obtain⟨ki,i,j,hi,hj,e⟩:=q0U e
    obtain⟨v,hv1,hv2,e⟩:∃ v:SV,v.enc=(qNK (j*s) x).enc∧v.ok h∧(K v).run=some r:=by
     rcases e with e | e
     ·exact⟨_,rfl,qVE hx,e⟩
     ·exact⟨_,q1E h1,q6D hx,e⟩
    refine⟨_,?_,hv2,e⟩;rw[hi,hv1]
    cases x with
    | ref k o w=>simp only[SV.enc,qNK,fvv,qZ,ha,hs,hj,h2 _ _ _ rfl,cond_true]
    | elt k g n w j o=>simp only[SV.enc,qNK,fvv,qZ,ha,hs,hj,qGF hx (h3 _ _ _ _ _ _ rfl),cond_true,zOW]
    | lp t xs j o=>simp only[SV.enc,qNK,fvv,qZ,ha,hs,hj,zOW]
    | _=>cases h1
   ·cases e
  ·cases e
def qWR (P:Program)(t:TypeId)(x ix:SV)(K:SV->zE9 R):zE9 R:=match qPV P t,x with
 | some (n,el),.agg l=>(match szT P el with
   | some s=>zDE n ix fun j=>match qE7 P el l (j*s) with
     | some v=>K v
     | none=>.fail
   | none=>.fail)
 | _,_=>.fail
theorem qUR {t:TypeId}{x ix:SV}{K:SV->zE9 R}(hx:x.ok h)(e:(qWR P t x ix K).run=some r):∃ v,qD3 P t x.enc ix.enc=some v.enc∧v.ok h∧(K v).run=some r∧∃ l,x=.agg l:=by
 unfold qWR at e;split at e
 ·rename_i n el l ha;split at e
  ·rename_i s hs;obtain⟨ki,i,j,hi,hj,e⟩:=q70 e;split at e
   ·rename_i v hv;obtain⟨h1,h2⟩:=qGC (h:=h) hv;simp only[SV.ok] at hx;refine⟨v,?_,h2 hx,e,l,rfl⟩;rw[hi];simp only[qD3,ha,SV.enc,fvv,hs,hj];exact h1
   ·cases e
  ·cases e
 ·cases e
def qF5 (v:SV)(i:Nat):Option SV:=match v with
 | .tup l=>(match zJ l i with
   | some x=>cond (pnt x.enc) (some x) none
   | none=>none)
 | _=>none
theorem qM2 {x v:SV}{i:Nat}(hx:x.ok h)(e:qF5 x i=some v):cB x.enc i=some v.enc∧v.ok h:=by
 unfold qF5 at e;split at e
 ·rename_i l;split at e
  ·rename_i y hy
   cases hp:pnt y.enc with
   | false=>rw[hp] at e;cases e
   | true =>
     rw[hp] at e;cases e;simp only[SV.ok] at hx;refine⟨?_,eZ hx hy⟩;simp only[cB,SV.enc,qU,hy,zNE,hp,cond_true]
  ·cases e
 ·cases e
def qCQ (fn:Fn)(first cap:List SV):Option SV:=match fn with
 | .func g=>some (match first,cap with
   | [],[]=>.c (.func (.func g) #[] #[])
   | _,_=>.fn g first cap)
 | _=>none
theorem qJS {fn:Fn}{first cap:List SV}{v:SV}(h1:okL h first)(h2:okL h cap)(e:qCQ fn first cap=some v):vE fn (qB first) (qB cap)=some v.enc∧v.ok h:=by
 unfold qCQ at e;split at e
 ·rename_i g;cases e
  cases first with
  | nil=>cases cap with
    | nil=>exact⟨by simp[vE,qB,SV.enc],by simp[SV.ok]⟩
    | cons x l=>exact⟨by simp[vE,qB,SV.enc],by simp only[SV.ok];exact⟨h1,h2⟩⟩
  | cons y l=>exact⟨by simp[vE,qB,SV.enc],by simp only[SV.ok];exact⟨h1,h2⟩⟩
 ·cases e
def qAW (v:SV)(h:SH):Option SV:=match v with
 | .fn _ _ _=>some v
 | .c (.func (.func _) _ _)=>some v
 | v=>cond (qV8 h v) (some v) none
theorem qJY {x v:SV}(hx:x.ok h)(e:qAW x h=some v):yO x.enc (qD h.l)=some v.enc∧v.ok h:=by
 unfold qAW at e;split at e
 ·cases e;exact⟨by simp[yO,SV.enc],hx⟩
 ·cases e;exact⟨by simp[yO,SV.enc,fvv],hx⟩
 ·cases hl:qV8 h x with
  | false=>rw[hl] at e;cases e
  | true =>
    rw[hl] at e;cases e;refine⟨?_,hx⟩
    cases x with
    | ref k o w=>simp only[SV.enc,yO,qGO hl,cond_true]
    | elt k g n w j o=>simp only[SV.enc,yO,qGF hx hl,cond_true]
    | lp t xs j o=>simp only[SV.enc,yO]
    | _=>cases hl
end
end Go.Sv
namespace Go.Sv
open Go.Idl
variable {el:TypeId}{k:Nat}{t:Ty}{x:SV}
noncomputable section
variable [Gc]
variable [Yl]
variable {P:Program}{h:SH}{R:Type}{r:R}
def zC0 (P:Program)(ts:Array TypeId)(x:SV)(h:SH):Option SV:=match ts[0]? with
 | some t=>(match zR P t with
   | some _=>(match x with
     | .d (.list _ _) xs=>some (.d (.int .i64) ((List.length xs:Nat):Int))
     | .c (.slice _ n _)=>some (.c (.int .i64 (n:Int)))
     | .own k g n=>(match slk k h.l with
       | some (.list _ _ g' _ _ _)=>cond (Nat.beq g g') (some (.d (.int .i64) (n:Int))) none
       | some (.cells el _ cs)=>(match szT P el with
         | some s=>cond (Nat.beq (n*s) cs.length) (some (.c (.int .i64 (n:Int)))) none
         | none=>none)
       | _=>none)
     | .sl k g _ _ m=>(match slk k h.l with
       | some (.list _ _ g' _ _ _)=>cond (Nat.beq g g') (some (.d (.int .i64) (m:Int))) none
       | _=>none)
     | _=>none)
   | none=>(match qPV P t with
     | some (n,_)=>some (.c (.int .i64 (n:Int)))
     | none=>none))
 | none=>none
theorem q6V {ts:Array TypeId}{v:SV}(ho:OkH P h)(hx:x.ok h)(e:zC0 P ts x h=some v):q1H P ts x.enc (qD h.l)=some v.enc∧v.ok h:=by
 unfold zC0 at e;unfold q1H;split at e
 ·rename_i t ht;split at e
  ·rename_i el hel;split at e
   ·rename_i el' u xs;cases e;simp[ht,hel,SV.enc,Ty.fv,fvv,SV.ok]
   ·rename_i a n c;cases e;simp[ht,hel,SV.enc,fvv,SV.ok]
   ·rename_i k g n;split at e
    ·rename_i el' gr g' w u xs hk
     obtain⟨h1,e1⟩:Nat.beq g g'=true∧some (SV.d (.int .i64) (n:Int))=some v:=by
      cases hb:Nat.beq g g' with
      | false=>rw[hb] at e;cases e
      | true=>rw[hb] at e;exact⟨rfl,e⟩
     cases e1;have hg:g=g':=zMZ h1;subst hg;simp only[SV.ok] at hx;have hn:=hx.2 _ _ _ _ _ hk;have hl:=ho.list _ _ _ _ _ _ _ hk;refine⟨?_,by simp[SV.ok]⟩;simp only[ht,hel,SV.enc,zM hk]
     show (match szT P el' with
      | some s=>cond (Nat.beq (n*s) (SO.list el' gr g w u xs).enc.cs.length) (some (fvv (.int .i64 (n:Int)))) none
      | none=>none)=_
     rw[hl.2.1];simp only[qR,hn,aA,cond_true,Ty.fv,fvv]
    ·rename_i el' w cs hk;split at e
     ·rename_i s hs
      cases hb:Nat.beq (n*s) cs.length with
      | false=>rw[hb] at e;cases e
      | true =>
        rw[hb] at e;cases e;refine⟨?_,by simp[SV.ok]⟩;simp only[ht,hel,SV.enc,zM hk]
        show (match szT P el' with
         | some s=>cond (Nat.beq (n*s) (qB cs).length) (some (fvv (.int .i64 (n:Int)))) none
         | none=>none)=_
        rw[hs];simp only[qP,hb,cond_true]
     ·cases e
    ·cases e
   ·rename_i k g n o m;split at e
    ·rename_i el' gr g' w u xs hk
     obtain⟨h1,e1⟩:Nat.beq g g'=true∧some (SV.d (.int .i64) (m:Int))=some v:=by
      cases hb:Nat.beq g g' with
      | false=>rw[hb] at e;cases e
      | true=>rw[hb] at e;exact⟨rfl,e⟩
     cases e1;have hg:g=g':=zMZ h1;subst hg;simp only[SV.ok] at hx;have hn:=hx.1.2 _ _ _ _ _ hk;have hl:=ho.list _ _ _ _ _ _ _ hk;refine⟨?_,by simp[SV.ok]⟩;simp only[ht,hel,SV.enc,zM hk]
     show (match szT P el' with
      | some s=>cond (Nat.beq (n*s) (SO.list el' gr g w u xs).enc.cs.length) (some (fvv (.int .i64 (m:Int)))) none
      | none=>none)=_
     rw[hl.2.1];simp only[qR,hn,aA,cond_true,Ty.fv,fvv]
    ·cases e
   ·cases e
  ·rename_i hel;split at e
   ·rename_i n el ha;cases e;simp[ht,hel,ha,SV.enc,SV.ok]
   ·cases e
 ·cases e
def qC4 (u t:Ty)(xs:List u.sem):Option (List t.sem):=if e:u=t then some (e ▸ xs) else none
omit [Yl] in
theorem wT {u:Ty}{xs:List u.sem}{ys:List t.sem}(e:qC4 u t xs=some ys):(⟨u,xs⟩:(t:Ty)×List t.sem)=⟨t,ys⟩:=by
 unfold qC4 at e;split at e
 ·rename_i h;subst h;cases e;rfl
 ·cases e
def qWK (t:Ty)(x:SV)(h:SH):Option (List t.sem):=match x with
 | .d (.list _ u) xs=>qC4 u t xs
 | .c (.slice none 0 _)=>some []
 | .own k g _=>(match slk k h.l with
   | some (.list _ _ g' _ u xs)=>cond (Nat.beq g g') (qC4 u t xs) none
   | _=>none)
 | .sl k g _ o m=>(match slk k h.l with
   | some (.list _ _ g' _ u xs)=>cond (Nat.beq g g') (match qC4 u t xs with
     | some xs=>some ((xs.drop o).take m)
     | none=>none) none
   | _=>none)
 | _=>none
theorem qGT {ys:List t.sem}(ho:OkH P h)(hx:x.ok h)(e:qWK t x h=some ys):mO P t.w x.enc (qD h.l)=some (ys.length,(ys.flatMap t.cells).map .f):=by
 unfold qWK at e;unfold mO;split at e
 ·rename_i el u xs;cases wT e;simp only[SV.enc,Ty.fv,zU,aA,cond_true]
 ·cases e;simp[SV.enc,fvv]
 ·rename_i k g n;split at e
  ·rename_i el gr g' w u xs hk
   cases hb:Nat.beq g g' with
   | false=>rw[hb] at e;cases e
   | true =>
     rw[hb] at e;have hg:g=g':=zMZ hb;subst hg;cases wT e;simp only[SV.ok] at hx;have hn:=hx.2 _ _ _ _ _ hk;have hl:=ho.list _ _ _ _ _ _ _ hk;simp only[SV.enc,zM hk]
     show (match szT P el with
      | some s'=>cond (Nat.beq (n*s') (SO.list el gr g w t ys).enc.cs.length&&Nat.beq t.w s') (some (n,(((ys.flatMap t.cells).map PV.f).drop (0*t.w)).take (n*t.w))) none
      | none=>none)=_
     rw[hl.2.1];simp only[qR,hn,aA,zNX,cond_true,zQE,zOH];rw[zNR (by rw[zNA,zU];exact zM0 _)]
  ·cases e
 ·rename_i k g n o m;split at e
  ·rename_i el gr g' w u xs hk
   cases hb:Nat.beq g g' with
   | false=>rw[hb] at e;cases e
   | true =>
     rw[hb] at e;have hg:g=g':=zMZ hb;subst hg;simp only[cond_true] at e;split at e
     case h_2=>cases e
     rename_i xs2 zL4;cases e;cases wT zL4;simp only[SV.ok] at hx;have hn:=hx.1.2 _ _ _ _ _ hk;have hl:=ho.list _ _ _ _ _ _ _ hk;simp only[SV.enc,zM hk]
     show (match szT P el with
      | some s'=>cond (Nat.beq (n*s') (SO.list el gr g w t xs2).enc.cs.length&&Nat.beq t.w s') (some (m,(((xs2.flatMap t.cells).map PV.f).drop (o*t.w)).take (m*t.w))) none
      | none=>none)=_
     rw[hl.2.1];simp only[qR,hn,aA,zNX,cond_true];rw[<-zPA,<-zO5,gL,gI]
     congr 1
     have:=hx.2;rw[zOA,zPQ,zOP (by omega)]
  ·cases e
 ·cases e
omit [Yl] in
theorem qB9 (ys:List t.sem):((ys.flatMap t.cells).map PV.f).all fZ=true:=by
 rw[zM1];intro x hx;obtain⟨y,_,rfl⟩:=zNO.1 hx;rfl
omit [Yl] in
theorem qF4 {h0:SH}{gr:Bool}{n m:Nat}{ty:Ty}{xs ys:List ty.sem}(hn:n=xs.length)(hm:m=ys.length):(SV.own k h0.next (n+m)).ok (h0.new k fun v=>.list el gr v v ty (xs++ys)) :=
 jK (by rw[zNK,hn,hm])
def qE4 (P:Program)(ts:List TypeId)(base x:SV)(k:Nat)(h:SH)(K:SV->SH->zE9 R):zE9 R:=match ts with
 | [st,xt]=>(match zR P st,zR P xt with
   | some el,some _=>(match szT P el,qED P 8 el with
     | some (s+1),some t=>cond (Nat.beq t.w (s+1)&&kK P el) (match qWK t x h with
       | some ys=>(match base with
         | .c (.slice none 0 0)=>.ite (Nat.beq ys.length 0) (K base h)
            (.ite (Nat.ble (0+ys.length) 1048576) (K (.own k h.next (0+ys.length)) (h.new k fun v=>.list el true v v t ([]++ys))) .fail)
         | .own j g n=>(match slk j h.l with
           | some (.list el' gr g' _ u xs)=>cond (Nat.beq el' el&&Nat.beq g g') (match qC4 u t xs with
             | some xs=>.ite (Nat.beq ys.length 0) (K base h)
                (.ite (Nat.ble (n+ys.length) 1048576) (cond gr (K (.own j h.next (n+ys.length)) ((h.del j).new j fun v=>.list el true v v t (xs++ys))) (K (.own k h.next (n+ys.length)) (h.new k fun v=>.list el true v v t (xs++ys)))) .fail)
             | none=>.fail) .fail
           | _=>.fail)
         | _=>.fail)
       | none=>.fail) .fail
     | _,_=>.fail)
   | _,_=>.fail)
 | _=>.fail
omit [Yl] in
theorem qHJ {xs ys:List t.sem}{ph:PHp}(h1:Nat.ble (xs.length+ys.length) 1048576=true)(h2:kK P el=true) :
 oG P el t.w ((xs.flatMap t.cells).map .f) xs.length ((ys.flatMap t.cells).map .f) ys.length k ph=some (.own k (xs.length+ys.length) 0 (xs.length+ys.length),(k,⟨el,true,((xs++ys).flatMap t.cells).map .f⟩)::ph):=by
 unfold oG;rw[h1,h2,zNA,zU,zNA,zU,qB9];simp only[aA,zNX,cond_true,qCP];rw[zP7,zN6]
theorem qET {ts:List TypeId}{base:SV}{K:SV->SH->zE9 R}(ho:OkH P h)(hb:base.ok h)(hx:x.ok h)(e:(qE4 P ts base x k h K).run=some r) :
 ∃ v h',zW P ts base.enc x.enc k (qD h.l)=some (v.enc,qD h'.l)∧Post P h h' v∧(K v h').run=some r:=by
 unfold qE4 at e;split at e
 ·rename_i st xt;split at e
  ·rename_i el el2 hel zG5;split at e
   ·rename_i s t hs hty;have e_:=qF e;clear e;obtain⟨c1,e⟩:=e_;rw[zMY] at c1;have hw:s+1=t.w:=(zMZ c1.1).symm;split at e
    ·rename_i ys hys;have hnw:=qGT ho hx hys;split at e
     ·have e_:=run_ite e;clear e
      rcases e_ with ⟨z,e⟩ | ⟨z,e⟩
      ·refine⟨_,_,?_,⟨.refl _,ho,hb⟩,e⟩;simp only[zW,hel,zG5,hs,SV.enc,fvv];rw[hw,hnw];simp only[z,cond_true]
      ·have e_:=run_ite e;clear e
       rcases e_ with ⟨z2,e⟩ | ⟨z2,e⟩
       ·have hn:=yN (k:=k) (f:=fun v=>.list el true v v t ([]++ys)) ho ⟨rfl,rfl,by rw[hs];exact congrArg some hw,by omega⟩;refine⟨_,_,?_,⟨hn.1,hn.2,qF4 (xs:=[]) rfl rfl⟩,e⟩;simp only[zW,hel,zG5,hs,SV.enc,fvv];rw[hw,hnw];simp only[z,cond_false];exact qHJ (xs:=[]) z2 c1.2
       ·cases e
     ·rename_i j g n;split at e
      ·rename_i el' gr g' w u xs0 hk;have e_:=qF e;clear e;obtain⟨c2,e⟩:=e_;rw[zMY] at c2;have he:el'=el:=zMZ c2.1;have hg:g=g':=zMZ c2.2;split at e
       ·rename_i xs hxs;have hcast:=wT hxs
        have hk2:slk j h.l=some (.list el gr g w t xs):=by
         rw[hk,he,<-hg];cases hcast;rfl
        have hnl:n=xs.length:=by
         simp only[SV.ok] at hb;exact hb.2 _ _ _ _ _ hk2
        have pre:∀ z:PV×PHp,(cond (Nat.beq ys.length 0) (some (PV.own j n 0 n,qD h.l))
         (cond (Nat.ble (n+ys.length) n) (cond (Nat.beq ((ys.flatMap t.cells).map PV.f).length (ys.length*(s+1))&&((ys.flatMap t.cells).map PV.f).all fZ) (some (PV.own j n 0 (n+ys.length),xL j { (SO.list el gr g w t xs).enc with cs:=yH (SO.list el gr g w t xs).enc.cs (n*(s+1)) ((ys.flatMap t.cells).map PV.f) } (qD h.l))) none)
           (cond gr (oG P el (s+1) (SO.list el gr g w t xs).enc.cs n ((ys.flatMap t.cells).map PV.f) ys.length j (nN j (qD h.l))) (oG P el (s+1) (SO.list el gr g w t xs).enc.cs n ((ys.flatMap t.cells).map PV.f) ys.length k (qD h.l)))))=some z ->
         zW P [st,xt] (SV.own j g n).enc x.enc k (qD h.l)=some z:=fun z hz=>by
         simp only[zW,hel,zG5,hs,SV.enc];rw[show mO P (s+1) x.enc (qD h.l)=_ from (hw ▸ hnw)];simp only[zM hk2];rw[show (SO.list el gr g w t xs).enc.el=el from rfl,show Nat.beq (n*(s+1)) (SO.list el gr g w t xs).enc.cs.length=true by rw[qR,hw,hnl];exact aA _];simp only[aA,zNX,cond_true];exact hz
        have e_:=run_ite e;clear e
        rcases e_ with ⟨z,e⟩ | ⟨z,e⟩
        ·refine⟨_,_,pre _ ?_,⟨.refl _,ho,hb⟩,e⟩;rw[z];simp[SV.enc]
        ·have e_:=run_ite e;clear e
         rcases e_ with ⟨z2,e⟩ | ⟨z2,e⟩
         ·have hpos:Nat.ble (n+ys.length) n=false:=by
           cases hq:Nat.ble (n+ys.length) n with
           | false=>rfl
           | true =>
             have h0:=zM9 hq;have:ys.length=0:=by omega
             rw[this] at z;cases z
          cases hgr:gr with
          | true =>
            rw[hgr] at e;have hd:=fI (k:=j) ho;have hn:=yN (h:=h.del j) (k:=j) (f:=fun v=>.list el true v v t (xs++ys)) hd.2 ⟨rfl,rfl,by rw[hs];exact congrArg some hw,by omega⟩;refine⟨_,_,pre _ ?_,⟨hd.1.trans hn.1,hn.2,qF4 (h0:=h.del j) hnl rfl⟩,e⟩;rw[z,hpos,hgr];simp only[cond_true,cond_false];rw[hw,hnl];rw[hnl] at z2;rw[show (SO.list el true g w t xs).enc.cs=(xs.flatMap t.cells).map .f from rfl,qHJ z2 c1.2,<-fF];rfl
          | false =>
            rw[hgr] at e;have hn:=yN (h:=h) (k:=k) (f:=fun v=>.list el true v v t (xs++ys)) ho ⟨rfl,rfl,by rw[hs];exact congrArg some hw,by omega⟩;refine⟨_,_,pre _ ?_,⟨hn.1,hn.2,qF4 (h0:=h) hnl rfl⟩,e⟩;rw[z,hpos,hgr];simp only[cond_false];rw[hw,hnl];rw[hnl] at z2;rw[show (SO.list el false g w t xs).enc.cs=(xs.flatMap t.cells).map .f from rfl,qHJ z2 c1.2];rfl
         ·cases e
       ·cases e
      ·cases e
     ·cases e
    ·cases e
   ·cases e
  ·cases e
 ·cases e
end
end Go.Sv
namespace Go.Sv
open Go.Idl
variable {base x:SV}{c o:Nat}{ts:List TypeId}
noncomputable section
variable [Gc]
variable [Yl]
variable {P:Program}{h:SH}{R:Type}{r:R}
def qCX {α:Type}(xs ys:List α)(o c:Nat):List α:=xs.take o++(ys.take c++xs.drop (o+c))
omit [Yl] in
theorem qPN {α:Type}{xs ys:List α}(h1:o+c<=xs.length)(h2:c<=ys.length):xs.length=(qCX xs ys o c).length:=by
 simp[qCX];omega
omit [Yl] in
theorem qH2 {t:Ty}{xs ys:List t.sem}(h2:c<=ys.length) :
 yH ((xs.flatMap t.cells).map PV.f) (o*t.w) (((ys.flatMap t.cells).map PV.f).take (c*t.w))=((qCX xs ys o c).flatMap t.cells).map PV.f:=by
 have hl:(((ys.flatMap t.cells).map PV.f).take (c*t.w)).length=c*t.w:=by
  rw[zOA,zNA,zU];exact zOP (zN4 _ h2)
 unfold yH;rw[hl,<-zPK,<-zO5,<-zO5,<-zPA,gI,gI,gL];unfold qCX;simp[zP7,zNN]
def q7V (P:Program)(ts:List TypeId)(base x:SV)(h:SH)(K:SV->SH->zE9 R):zE9 R:=match ts with
 | [st,xt]=>(match zR P st,zR P xt with
   | some el,some _=>(match szT P el,qED P 8 el with
     | some (s+1),some t=>cond (Nat.beq t.w (s+1)) (match qWK t x h with
       | some ys=>(match base with
         | .own j g n=>(match slk j h.l with
           | some (.list el' gr g' _ u xs)=>cond (Nat.beq el' el&&Nat.beq g g') (match qC4 u t xs with
             | some xs=>K (.d (.int .i64) ((Nat.min ys.length n:Nat):Int)) (h.put j fun v=>.list el gr g v t (qCX xs ys 0 (Nat.min ys.length n)))
             | none=>.fail) .fail
           | _=>.fail)
         | .sl j g n o m=>(match slk j h.l with
           | some (.list el' gr g' _ u xs)=>cond (Nat.beq el' el&&Nat.beq g g') (match qC4 u t xs with
             | some xs=>K (.d (.int .i64) ((Nat.min ys.length m:Nat):Int)) (h.put j fun v=>.list el gr g v t (qCX xs ys o (Nat.min ys.length m)))
             | none=>.fail) .fail
           | _=>.fail)
         | .d (.list _ _) xs=>.ite (Nat.beq (List.length xs) 0) (K (.d (.int .i64) 0) h) .fail
         | .c (.slice none 0 _)=>K (.d (.int .i64) 0) h
         | _=>.fail)
       | none=>.fail) .fail
     | _,_=>.fail)
   | _,_=>.fail)
 | _=>.fail
theorem q1N {K:SV->SH->zE9 R}(ho:OkH P h)(hb:base.ok h)(hx:x.ok h)(e:(q7V P ts base x h K).run=some r) :
 ∃ v h',qFP P ts base.enc x.enc (qD h.l)=some (v.enc,qD h'.l)∧Post P h h' v∧(K v h').run=some r:=by
 unfold q7V at e;split at e
 ·rename_i st xt;split at e
  ·rename_i el el2 hel zG5;split at e
   ·rename_i s t hs hty;have e_:=qF e;clear e;obtain⟨c1,e⟩:=e_;have hw:s+1=t.w:=(zMZ c1).symm;split at e
    ·rename_i ys hys;have hnw:mO P (s+1) x.enc (qD h.l)=some (ys.length,(ys.flatMap t.cells).map .f):=hw ▸ qGT ho hx hys;have hlen:((ys.flatMap t.cells).map PV.f).length=ys.length*(s+1):=by rw[zNA,zU,hw]
     have key:∀ {j g n o m w:Nat} {gr:Bool} {xs:List t.sem},slk j h.l=some (.list el gr g w t xs)->n=xs.length->o+m<=n ->
      (K (.d (.int .i64) ((Nat.min ys.length m:Nat):Int)) (h.put j fun v=>.list el gr g v t (qCX xs ys o (Nat.min ys.length m)))).run=some r ->
      ∃ v h',qFP P [st,xt] (.own j n o m) x.enc (qD h.l)=some (v.enc,qD h'.l)∧Post P h h' v∧(K v h').run=some r:=by
      intro j g n o m w gr xs hk hn hom e;have hc:Nat.min ys.length m<=ys.length:=Nat.min_le_left _ _;have hc2:Nat.min ys.length m<=m:=Nat.min_le_right _ _;have hp:=jW (f:=fun v=>.list el gr g v t (qCX xs ys o (Nat.min ys.length m))) ho hk ⟨_,rfl,qPN (by omega) hc⟩;refine⟨_,_,?_,⟨hp.1,hp.2,by simp[SV.ok]⟩,e⟩;simp only[qFP,hel,zG5,hs,hnw,zM hk];rw[show (SO.list el gr g w t xs).enc.el=el from rfl,show Nat.beq (n*(s+1)) (SO.list el gr g w t xs).enc.cs.length=true by rw[qR,hw,hn];exact aA _,hlen,qB9];simp only[aA,zNX,cond_true];rw[show qD (h.put j fun v=>.list el gr g v t (qCX xs ys o (Nat.min ys.length m))).l=xL j (SO.list el gr g h.next t (qCX xs ys o (Nat.min ys.length m))).enc (qD h.l) from xG j _ _];rw[hw];show some (_,xL j ⟨el,gr,yH ((xs.flatMap t.cells).map PV.f) (o*t.w) _⟩ (qD h.l))=some (_,xL j ⟨el,gr,((qCX xs ys o (Nat.min ys.length m)).flatMap t.cells).map PV.f⟩ (qD h.l));rw[qH2 hc];simp[SV.enc,Ty.fv,fvv]
     split at e
     ·rename_i j g n;split at e
      ·rename_i el' gr g' w u xs0 hk;have e_:=qF e;clear e;obtain⟨c2,e⟩:=e_;rw[zMY] at c2;have he:el'=el:=zMZ c2.1;have hg:g=g':=zMZ c2.2;split at e
       ·rename_i xs hxs;have hcast:=wT hxs
        have hk2:slk j h.l=some (.list el gr g w t xs):=by
         rw[hk,he,<-hg];cases hcast;rfl
        simp only[SV.ok] at hb;exact key hk2 (hb.2 _ _ _ _ _ hk2) (by omega) e
       ·cases e
      ·cases e
     ·rename_i j g n o m;split at e
      ·rename_i el' gr g' w u xs0 hk;have e_:=qF e;clear e;obtain⟨c2,e⟩:=e_;rw[zMY] at c2;have he:el'=el:=zMZ c2.1;have hg:g=g':=zMZ c2.2;split at e
       ·rename_i xs hxs;have hcast:=wT hxs
        have hk2:slk j h.l=some (.list el gr g w t xs):=by
         rw[hk,he,<-hg];cases hcast;rfl
        simp only[SV.ok] at hb;exact key hk2 (hb.1.2 _ _ _ _ _ hk2) hb.2 e
       ·cases e
      ·cases e
     ·rename_i el' u xs
      rcases run_ite e with ⟨z,e⟩ | ⟨z,e⟩
      ·refine⟨_,_,?_,⟨.refl _,ho,by simp[SV.ok]⟩,e⟩;have hz:xs=[]:=zN7.1 (zMZ z);subst hz;simp[qFP,hel,zG5,hs,hnw,SV.enc,Ty.fv,fvv]
      ·cases e
     ·refine⟨_,_,?_,⟨.refl _,ho,by simp[SV.ok]⟩,e⟩;simp[qFP,hel,zG5,hs,hnw,SV.enc,Ty.fv,fvv]
     ·cases e
    ·cases e
   ·cases e
  ·cases e
 ·cases e
def q8A (P:Program)(ts:List TypeId)(base x:SV)(k:Nat)(h:SH)(K:SV->SH->zE9 R):zE9 R:=match base with
 | .sl j g n o m=>(match ts with
   | [st,xt]=>(match zR P st,zR P xt with
     | some el,some _=>(match szT P el,qED P 8 el with
       | some (s+1),some t=>cond (Nat.beq t.w (s+1)&&Nat.beq o 0) (match qWK t x h with
         | some ys=>(match slk j h.l with
           | some (.list el' gr g' _ u xs)=>cond (Nat.beq el' el&&Nat.beq g g') (match qC4 u t xs with
             | some xs=>.ite (Nat.beq ys.length 0) (K base h)
                (.ite (Nat.ble (m+ys.length) n) (K (.sl j g n 0 (m+ys.length)) (h.put j fun v=>.list el gr g v t (qCX xs ys m ys.length)))
                  (.ite (Nat.beq m n) (qE4 P ts (.own j g n) x k h K) .fail))
             | none=>.fail) .fail
           | _=>.fail)
         | none=>.fail) .fail
       | _,_=>.fail)
     | _,_=>.fail)
   | _=>.fail)
 | base=>qE4 P ts base x k h K
theorem q0X {k:Nat}{K:SV->SH->zE9 R}(ho:OkH P h)(hb:base.ok h)(hx:x.ok h)(e:(q8A P ts base x k h K).run=some r) :
 ∃ v h',zW P ts base.enc x.enc k (qD h.l)=some (v.enc,qD h'.l)∧Post P h h' v∧(K v h').run=some r:=by
 unfold q8A at e;split at e
 case h_2=>exact qET ho hb hx e
 rename_i j g n o m;split at e
 case h_2=>cases e
 rename_i st xt;split at e
 case h_2=>cases e
 rename_i el el2 hel zG5;split at e
 case h_2=>cases e
 rename_i s t hs hty;obtain⟨c1,e1⟩:=qF e;rw[zMY] at c1;have hw:s+1=t.w:=(zMZ c1.1).symm;have h0:o=0:=zMZ c1.2;subst h0;split at e1
 case h_2=>cases e1
 rename_i ys hys;have hnw:mO P (s+1) x.enc (qD h.l)=some (ys.length,(ys.flatMap t.cells).map .f):=hw ▸ qGT ho hx hys;split at e1
 case h_2=>cases e1
 rename_i el' gr g' w u xs0 hk;obtain⟨c2,e2⟩:=qF e1;rw[zMY] at c2;have he:el'=el:=zMZ c2.1;have hg:g=g':=zMZ c2.2;split at e2
 case h_2=>cases e2
 rename_i xs hxs;have hcast:=wT hxs
 have hk2:slk j h.l=some (.list el gr g w t xs):=by
  rw[hk,he,<-hg];cases hcast;rfl
 simp only[SV.ok] at hb;have hnl:n=xs.length:=hb.1.2 _ _ _ _ _ hk2;have hlen:((ys.flatMap t.cells).map PV.f).length=ys.length*(s+1):=by rw[zNA,zU,hw]
 rcases run_ite e2 with ⟨z,e3⟩ | ⟨z,e3⟩
 ·refine⟨_,_,?_,⟨.refl _,ho,by simp only[SV.ok];exact hb⟩,e3⟩;simp only[zW,hel,zG5,hs,SV.enc,hnw,zM hk2];rw[show (SO.list el gr g w t xs).enc.el=el from rfl,show Nat.beq (n*(s+1)) (SO.list el gr g w t xs).enc.cs.length=true by rw[qR,hw,hnl];exact aA _];simp only[aA,zNX,cond_true,z]
 ·rcases run_ite e3 with ⟨z2,e4⟩ | ⟨z2,e4⟩
  ·have hle:=zM9 z2;have hp:=jW (f:=fun v=>.list el gr g v t (qCX xs ys m ys.length)) ho hk2 ⟨_,rfl,qPN (by omega) (zM0 _)⟩;refine⟨_,_,?_,⟨hp.1,hp.2,?_⟩,e4⟩
   ·simp only[zW,hel,zG5,hs,SV.enc,hnw,zM hk2];rw[show (SO.list el gr g w t xs).enc.el=el from rfl,show Nat.beq (n*(s+1)) (SO.list el gr g w t xs).enc.cs.length=true by rw[qR,hw,hnl];exact aA _,hlen,qB9];simp only[aA,zNX,cond_true,z,z2,cond_false];rw[show qD (h.put j fun v=>.list el gr g v t (qCX xs ys m ys.length)).l=xL j (SO.list el gr g h.next t (qCX xs ys m ys.length)).enc (qD h.l) from xG j _ _];rw[hw];show some (_,xL j ⟨el,gr,yH ((xs.flatMap t.cells).map PV.f) (m*t.w) _⟩ (qD h.l))=some (_,xL j ⟨el,gr,((qCX xs ys m ys.length).flatMap t.cells).map PV.f⟩ (qD h.l));rw[<-qH2 (zM0 _),zNR (by rw[zNA,zU];exact zM0 _)]
   ·simp only[SV.ok];exact⟨hb.1.keep hp.1,by omega⟩
  ·rcases run_ite e4 with ⟨z3,e5⟩ | ⟨_,e5⟩
   ·have hmn:m=n:=zMZ z3;subst hmn;have:=qET (base:=.own j g m) ho (by simp only[SV.ok];exact hb.1) hx e5;simpa only[SV.enc] using this
   ·cases e5
def zBC (most:Nat)(i:Int):Option Nat:=if 0<=i∧i<=(most:Int) then some i.toNat else none
def qOY (d most:Nat)(x:Option SV)(K:Nat->zE9 R):zE9 R:=match x with
 | none=>K d
 | some v=>(match asI v with
   | some (_,i)=>.bind (zBC most i) K
   | none=>.fail)
theorem vK {d most:Nat}{x:Option SV}{K:Nat->zE9 R}(e:(qOY d most x K).run=some r):∃ n,bnd d most (x.map SV.enc)=some n∧(n=d∨n<=most)∧(K n).run=some r:=by
 unfold qOY at e;split at e
 ·exact⟨d,rfl,.inl rfl,e⟩
 ·rename_i v;split at e
  ·rename_i k i hi;have e_:=run_bind e;clear e;obtain⟨n,hn,e⟩:=e_;refine⟨n,?_,.inr ?_,e⟩
   ·simp only[zNE,yD hi,fvv,bnd];exact hn
   ·unfold zBC at hn;split at hn
    ·cases hn;omega
    ·cases hn
  ·cases e
def qWW (P:Program)(t:TypeId)(x:SV)(lo hi:Option SV)(h:SH)(K:SV->zE9 R):zE9 R:=match x with
 | .d (.list el u) xs=>(match zR P t,szT P el with
   | some el',some s=>cond (Nat.beq el' el&&Nat.beq s u.w) (qOY (List.length xs) (List.length xs) hi fun b=>qOY 0 b lo fun a=>K (.d (.list el u) ((List.drop a xs).take (b - a)))) .fail
   | _,_=>.fail)
 | .c (.slice none 0 0)=>(match zR P t with
   | some el=>cond (szT P el).isSome (qOY 0 0 hi fun _=>qOY 0 0 lo fun _=>K x) .fail
   | none=>.fail)
 | .own k g n=>(match zR P t,slk k h.l with
   | some el',some (.list el _ g' _ u _)=>cond (Nat.beq el' el&&Nat.beq g g') (qOY n n hi fun b=>qOY 0 b lo fun a =>
      .ite (Nat.beq a 0) (K (.sl k g n 0 b)) (.ite (Nat.beq a b) (K (.d (.list el u) [])) (K (.sl k g n a (b - a))))) .fail
   | _,_=>.fail)
 | .sl k g n o m=>(match zR P t,slk k h.l with
   | some el',some (.list el _ g' _ u _)=>cond (Nat.beq el' el&&Nat.beq g g') (qOY m m hi fun b=>qOY 0 b lo fun a =>
      .ite (Nat.beq a 0) (K (.sl k g n o b)) (.ite (Nat.beq a b) (K (.d (.list el u) [])) (K (.sl k g n (o+a) (b - a))))) .fail
   | _,_=>.fail)
 | .ref k 0 w=>(match qPV P t,slk k h.l with
   | some (m,el2),some (.spc v (.arr el _ xs))=>(match szT P el2 with
     | some 1=>cond (!Nat.beq el2 el&&Nat.beq m w) (.ite (Nat.beq w (List.length xs)) (qOY m m hi fun b=>qOY 0 b lo fun a=>.ite (Nat.beq a 0&&Nat.beq b m) (K (.asl el2 k v m)) .fail) .fail) .fail
     | _=>.fail)
   | _,_=>.fail)
 | _=>.fail
theorem qTK {t:TypeId}{lo hi:Option SV}{K:SV->zE9 R}(ho:OkH P h)(hx:x.ok h)(e:(qWW P t x lo hi h K).run=some r) :
 ∃ v,wP P t x.enc (lo.map SV.enc) (hi.map SV.enc) (qD h.l)=some v.enc∧v.ok h∧(K v).run=some r:=by
 unfold qWW at e
 have key:∀ {k g n o m w:Nat} {gr:Bool} {el el':TypeId} {u:Ty} {xs:List u.sem},slk k h.l=some (.list el gr g w u xs)->n=xs.length->o+m<=n->g < h.next->zR P t=some el'->Nat.beq el' el=true ->
  ∀ a b,bnd m m (hi.map SV.enc)=some b->b<=m->bnd 0 b (lo.map SV.enc)=some a->a<=b ->
  (zE9.ite (Nat.beq a 0) (K (.sl k g n o b)) (.ite (Nat.beq a b) (K (.d (.list el u) [])) (K (.sl k g n (o+a) (b - a))))).run=some r ->
  ∃ v,wP P t (.own k n o m) (lo.map SV.enc) (hi.map SV.enc) (qD h.l)=some v.enc∧v.ok h∧(K v).run=some r:=by
  intro k g n o m w gr el el' u xs hk hn hom hg hel hbe a b hb hbm ha hab e;have hl:=ho.list _ _ _ _ _ _ _ hk
  have pre:wP P t (.own k n o m) (lo.map SV.enc) (hi.map SV.enc) (qD h.l)=some (cond (Nat.beq a 0) (.own k n o b) (cond (Nat.beq a b) (.f (.l el 0 [])) (.own k n (o+a) (b - a)))):=by
   simp only[wP,zM hk,hel];rw[show (SO.list el gr g w u xs).enc.el=el from rfl,hl.2.1,hb];simp only[ha,qR,hn,aA,hbe,zNX,cond_true]
  have hsl:qXO h k g n:=⟨hg,fun el2 gr2 w2 t2 xs2 hk2=>by
   rw[hk] at hk2;cases hk2
   exact hn⟩
  rw[pre]
  rcases run_ite e with ⟨z,e⟩ | ⟨z,e⟩
  ·exact⟨_,by rw[z];simp[SV.enc],by simp only[SV.ok];exact⟨hsl,by omega⟩,e⟩
  ·rcases run_ite e with ⟨z2,e⟩ | ⟨z2,e⟩
   ·exact⟨_,by rw[z,z2];simp[SV.enc,Ty.fv],by simp[SV.ok],e⟩
   ·exact⟨_,by rw[z,z2];simp[SV.enc],by simp only[SV.ok];exact⟨hsl,by omega⟩,e⟩
 split at e
 ·rename_i el u xs;split at e
  ·rename_i el' s hel hs;have e_:=qF e;clear e;obtain⟨c1,e⟩:=e_;rw[zMY] at c1;have hw:s=u.w:=zMZ c1.2;have he:el'=el:=zMZ c1.1;subst hw he;obtain⟨b,hb,hb2,e1⟩:=vK e;obtain⟨a,ha,ha2,e2⟩:=vK e1;have hbl:b<=xs.length:=by rcases hb2 with q | q <;> omega
   have hab:a<=b:=by rcases ha2 with q | q <;> omega
   refine⟨_,?_,by simp[SV.ok],e2⟩;simp only[SV.enc,Ty.fv,wP,hel,hs,hb,ha,aA,zU,zNX,cond_true];rw[gL,gI]
   cases hq:Nat.beq a b with
   | true =>
     have:a=b:=zMZ hq;subst this;simp
   | false =>
     simp only[cond_false,zOA,zPQ];rw[zOP (by omega)]
  ·cases e
 ·split at e
  ·rename_i el hel;have e_:=qF e;clear e;obtain⟨c1,e⟩:=e_;obtain⟨b,hb,hb2,e1⟩:=vK e;obtain⟨a,ha,ha2,e2⟩:=vK e1;refine⟨_,?_,by simp[SV.ok],e2⟩;have hb':bnd 0 0 (hi.map SV.enc)=some b:=hb;simp only[SV.enc,fvv,wP,hel,hb',ha,c1,cond_true]
  ·cases e
 ·rename_i k g n;split at e
  ·rename_i el' el gr g' w u xs hel hk;have e_:=qF e;clear e;obtain⟨c1,e⟩:=e_;rw[zMY] at c1;have hg:g=g':=zMZ c1.2;subst hg;obtain⟨b,hb,hb2,e1⟩:=vK e;obtain⟨a,ha,ha2,e2⟩:=vK e1;simp only[SV.ok] at hx;refine key hk (hx.2 _ _ _ _ _ hk) (by omega) hx.1 hel c1.1 a b hb (by rcases hb2 with q | q <;> omega) ha (by rcases ha2 with q | q <;> omega) ?_;rw[zNY];exact e2
  ·cases e
 ·rename_i k g n o m;split at e
  ·rename_i el' el gr g' w u xs hel hk;have e_:=qF e;clear e;obtain⟨c1,e⟩:=e_;rw[zMY] at c1;have hg:g=g':=zMZ c1.2;subst hg;obtain⟨b,hb,hb2,e1⟩:=vK e;obtain⟨a,ha,ha2,e2⟩:=vK e1;simp only[SV.ok] at hx;exact key hk (hx.1.2 _ _ _ _ _ hk) hx.2 hx.1.1 hel c1.1 a b hb (by rcases hb2 with q | q <;> omega) ha (by rcases ha2 with q | q <;> omega) e2
  ·cases e
 ·rename_i k w;split at e
  ·rename_i m el2 v el ik xs ha hk;split at e
   ·rename_i hs;obtain⟨c1,e0⟩:=qF e;rw[zMY,zNJ] at c1;have hmw:=zMZ c1.2;subst hmw
    rcases run_ite e0 with ⟨z,e1⟩ | ⟨_,e1⟩
    ·obtain⟨b,hb,_,e2⟩:=vK e1;obtain⟨a,hal,_,e3⟩:=vK e2
     rcases run_ite e3 with ⟨z2,e4⟩ | ⟨_,e4⟩
     ·rw[zMY] at z2;have h0:=zMZ z2.1;have h1:=zMZ z2.2;subst h0 h1;refine⟨_,?_,?_,e4⟩
      ·simp only[SV.enc,wP,zM hk,ha,hs,hb,hal];show cond (Nat.beq el2 el&&_) _ (cond (Nat.beq b (xs.map fun x=>fvv (.int ik x)).length&&(Nat.beq b b&&(Nat.beq 0 0&&(!false&&(Nat.beq 0 0&&Nat.beq b b))))) _ _)=_;rw[c1.1,zNA,z];simp only[Bool.false_and,cond_false,aA,zNX,zRF,cond_true]
      ·simp only[SV.ok];refine⟨ho.ver _ _ hk,fun ob hob _=>?_⟩;rw[hk] at hob;cases hob;exact⟨_,_,_,rfl,zMZ z⟩
     ·cases e4
    ·cases e1
   ·cases e
  ·cases e
 ·cases e
end
end Go.Sv
namespace Go.Sv
open Go.Idl
variable [Gc]
variable {P:Program}{t t2:TypeId}{a b:ByteArray}{ph:PHp}
theorem bL {v:Value}(h3:qJQ v=true)(h4:ofC v=fvv v):qSH (qAX H00 v)=some (fvv v):=by
 unfold qAX;rw[h3];show some (ofC v)=_;rw[h4]
theorem qL1 {op:BinOp}{v:Value}(h1:zFP P (cop (.binOp op t (.const (.string a)) (.const (.string b)) t2)) op t (.string a) (.string b) [] H00=kG P (cop (.binOp op t (.const (.string a)) (.const (.string b)) t2)) [] H00)
 (h2:yB P (execOp (Env.val []) (cop (.binOp op t (.const (.string a)) (.const (.string b)) t2)))=some (.value v)) (h3:qJQ v=true) (h4:ofC v=fvv v):jP P op t t2 (fvv (.string a)) (fvv (.string b)) ph=some (fvv v):=by
 unfold jP;simp only[fvv,pl,q8U,cond_false];show qSH (zFP P _ op t (.string a) (.string b) [] H00)=_;rw[h1];unfold kG;have:zQ (kP (Env.val []) (cop (.binOp op t (.const (.string a)) (.const (.string b)) t2)).op.operands.toList)=true:=rfl;rw[if_pos this,h2];exact bL h3 h4
theorem q7G (hl:a.size+b.size<=9223372036854775807):jP P .add t t2 (fvv (.string a)) (fvv (.string b)) ph=some (fvv (.string (a++b))):=by
 refine qL1 rfl ?_ rfl rfl;have hm:IntKind.i64.max=9223372036854775807:=rfl;have:¬ (((a.size+b.size:Nat):Int) > IntKind.i64.max):=by rw[hm];omega
 show yB P (do eqGuard .add t (.const (.string a)) (.const (.string b)) (.string a) (.string b);let v <- Op.stringOp .add a b;pure (Next.value v))=_;unfold Op.stringOp;simp only[this,if_false];rfl
theorem q7F:jP P .eql t t2 (fvv (.string a)) (fvv (.string b)) ph=some (fvv (.bool (a.toList==b.toList))):=qL1 rfl rfl rfl rfl
theorem q7L:jP P .neq t t2 (fvv (.string a)) (fvv (.string b)) ph=some (fvv (.bool (!(a.toList==b.toList)))):=qL1 rfl rfl rfl rfl
theorem dB {α β:Type}(s:Sem α)(g:α->Sem β):yB P (s >>= g)=(yB P s).bind fun a=>yB P (g a):=xY g s
theorem dP {α:Type}(a:α):yB P (pure a:Sem α)=some a:=rfl
theorem q0C {ts:Array TypeId}(hs:qYX P ts=true):∃ t,ts[0]?=some t∧P.underlying t=some .string:=by
 unfold qYX at hs
 cases h0:ts[0]? with
 | none=>rw[h0] at hs;cases hs
 | some t =>
   rw[h0] at hs;simp only[zNI] at hs;split at hs
   ·rename_i hq;exact⟨t,rfl,hq⟩
   ·cases hs
theorem zAR {t:TypeId}{ts:Array TypeId}{ty:TypeId}(h0:ts[0]?=some t)(hu:P.underlying t=some .string):yB P (Go.Builtin.len_ ts ty #[.string a])=some (goInt a.size):=by
 unfold Go.Builtin.len_;simp only[h0,dB,yA,hu,zNI,zO3,zNS];rfl
theorem qQG {x:Operand}{ts:Array TypeId}{ty:TypeId}{env:Env}(hs:qYX P ts=true)(hx:env.val x=.string a) :
 qSH (kG P (cop (.call ⟨.builtin .len,#[x],ts⟩) ty) env H00)=some (fvv (.int .i64 (a.size:Int))):=by
 have h2:kP env.val (cop (.call ⟨.builtin .len,#[x],ts⟩) ty).op.operands.toList=[env.val x]:=rfl;unfold kG;rw[h2];obtain⟨t,h0,hu⟩:=q0C hs;have hp:zQ [env.val x]=true:=by rw[hx];rfl
 rw[if_pos hp]
 have he:yB P (execOp env.val (cop (.call ⟨.builtin .len,#[x],ts⟩) ty))=some (.value (goInt a.size)):=by
  simp only[cop,execOp,resolve,List.map_toArray,zNH,zO7,hx];show yB P (do let v <- Go.Builtin.len_ ts ty #[.string a];pure (Next.value v))=_;rw[dB,zAR h0 hu];rfl
 rw[he];exact bL rfl rfl
def q4W (s:ByteArray)(i:Int):Option Int:=if 0<=i then (s[i.toNat]?).map fun b=>(b.toNat:Int) else none
theorem qZA {t:TypeId}{s:ByteArray}{k:IntKind}{i c:Int}{ty:TypeId}(hu:P.underlying t=some .string)(h:q4W s i=some c):qNG P (.index t (.const (.string s)) (.const (.int k i))) ty=some (fvv (.int .u8 c)):=by
 unfold qNG kG;have hp:zQ (kP (Env.val []) (cop (.index t (.const (.string s)) (.const (.int k i))) ty).op.operands.toList)=true:=rfl;rw[if_pos hp]
 have he:yB P (execOp (Env.val []) (cop (.index t (.const (.string s)) (.const (.int k i))) ty))=some (.value (.int .u8 c)):=by
  show yB P (do let v <- Instr.index t (.string s) (.int k i);pure (Next.value v))=_;unfold q4W at h;split at h
  ·rename_i hc;obtain⟨b,hb,rfl⟩:=zM8.1 h;unfold Instr.index;simp only[dB,yA,hu,zNI];have h0:yB P (asIntOf (.int k i))=some (k,i):=rfl;rw[h0];simp only[zNI,if_pos hc,hb,dP]
  ·cases h
 rw[he];exact bL rfl rfl
theorem qAD {k:IntKind}{i:Int}{y n:Nat}{code:BoundsCode}(h:(if 0<=i∧i<=(y:Int) then some i.toNat else none)=some n):yB P (Instr.sliceBound (.int k i) y code)=some n:=by
 unfold Instr.sliceBound;rw[dB];have h0:yB P (asIntOf (.int k i))=some (k,i):=rfl;rw[h0];simp only[zNI];split at h
 ·rename_i hc;rw[if_pos hc];cases h;rfl
 ·cases h
theorem qU9 {d most n:Nat}{x:Option PV}(h:bnd d most x=some n):(x=none∧n=d)∨∃ k i,x=some (fvv (.int k i))∧(if 0<=i∧i<=(most:Int) then some i.toNat else none)=some n:=by
 unfold bnd at h;split at h
 ·cases h;exact .inl ⟨rfl,rfl⟩
 ·rename_i k i;exact .inr ⟨k,i,rfl,h⟩
 ·cases h
theorem q1U {t:TypeId}{s:ByteArray}{lo hi:Option Operand}{l u:Nat}{env:List PV}{ty:TypeId}(hu:P.underlying t=some .string)(h1:bnd s.size s.size (hi.map (qJ env))=some u)(h2:bnd 0 u (lo.map (qJ env))=some l) :
 qNG P (.slice t (.const (.string s)) (lo.map fun a=>.const ((pl (qJ env a)).getD undef)) (hi.map fun a=>.const ((pl (qJ env a)).getD undef)) none) ty=some (fvv (.string (s.extract l u))):=by
 have opt:∀ {o:Option Operand} {d most n:Nat},bnd d most (o.map (qJ env))=some n->(o=none∧n=d)∨∃ k i,(o.map fun a=>Operand.const ((pl (qJ env a)).getD undef))=some (.const (.int k i))∧(if 0<=i∧i<=(most:Int) then some i.toNat else none)=some n:=fun {o d most n} h=>by
  rcases qU9 h with ⟨q,e⟩ | ⟨k,i,q,e⟩
  ·cases o with
   | none=>exact .inl ⟨rfl,e⟩
   | some a=>cases q
  ·cases o with
   | none=>cases q
   | some a =>
     have q:qJ env a=fvv (.int k i):=by simpa using q
     exact .inr ⟨k,i,by simp[q,fvv,pl],e⟩
 unfold qNG kG
 have hk:∀ (lo' hi':Option Operand) (vl vh:Option Value),lo'.map (Env.val [])=vl->hi'.map (Env.val [])=vh->zQ (kP (Env.val []) (cop (.slice t (.const (.string s)) lo' hi' none) ty).op.operands.toList)=true ->
  yB P (Instr.sliceBounds false s.size s.size vl vh none)=some (l,u,s.size)->qSH (if zQ (kP (Env.val []) (cop (.slice t (.const (.string s)) lo' hi' none) ty).op.operands.toList)=true then qF1 H00 (yB P (execOp (Env.val []) (cop (.slice t (.const (.string s)) lo' hi' none) ty))) else none)=some (fvv (.string (s.extract l u))):=by
  intro lo' hi' vl vh e1 e2 hp hb;rw[if_pos hp]
  have he:yB P (execOp (Env.val []) (cop (.slice t (.const (.string s)) lo' hi' none) ty))=some (.value (.string (s.extract l u))):=by
   show yB P (do let v <- Instr.sliceAt t (.string s) (lo'.map (Env.val [])) (hi'.map (Env.val [])) none;pure (Next.value v))=_;rw[e1,e2];unfold Instr.sliceAt;simp only[dB,yA,hu,zNI];unfold Instr.slice;simp only[dB,yA,hu,zNI];simp only[zRH,zOY,if_false,dB,hb,zNI,dP]
  rw[he];exact bL rfl rfl
 have hB:∀ (vl vh:Option Value),(vh=none∧u=s.size∨∃ k i,vh=some (.int k i)∧(if 0<=i∧i<=(s.size:Int) then some i.toNat else none)=some u)->(vl=none∧l=0∨∃ k i,vl=some (.int k i)∧(if 0<=i∧i<=(u:Int) then some i.toNat else none)=some l) ->
  yB P (Instr.sliceBounds false s.size s.size vl vh none)=some (l,u,s.size):=by
  intro vl vh a b;unfold Instr.sliceBounds;rcases a with ⟨rfl,rfl⟩ | ⟨k,i,rfl,ha⟩ <;> rcases b with ⟨rfl,rfl⟩ | ⟨k',i',rfl,hb⟩ <;> simp only[dB,dP,zNI,zRH,zOY,if_false]
  ·rw[qAD hb];rfl
  ·rw[qAD ha];rfl
  ·rw[qAD ha];simp only[zNI];rw[qAD hb];rfl
 rcases opt h1 with ⟨rfl,e1⟩ | ⟨k,i,e1,f1⟩ <;> rcases opt h2 with ⟨rfl,e2⟩ | ⟨k',i',e2,f2⟩
 ·exact hk none none none none rfl rfl rfl (hB _ _ (.inl ⟨rfl,e1⟩) (.inl ⟨rfl,e2⟩))
 ·rw[e2];exact hk _ none _ none rfl rfl rfl (hB _ _ (.inl ⟨rfl,e1⟩) (.inr ⟨k',i',rfl,f2⟩))
 ·rw[e1];exact hk none _ none _ rfl rfl rfl (hB _ _ (.inr ⟨k,i,rfl,f1⟩) (.inl ⟨rfl,e2⟩))
 ·rw[e1,e2];exact hk _ _ _ _ rfl rfl rfl (hB _ _ (.inr ⟨k,i,rfl,f1⟩) (.inr ⟨k',i',rfl,f2⟩))
theorem q8B {s d:TypeId}{k k':IntKind}{x:Int}{u:TypeDesc}(hs:P.underlying s=some u)(hd:P.underlying d=some (.int k')):aY P (fun a=>.convert s d a) (fvv (.int k x))=some (fvv (.int k' (k'.wrap x))):=by
 have hl:pl (fvv (.int k x))=some (.int k x):=rfl;unfold aY;rw[hl];unfold qNG kG;have hp:zQ (kP (Env.val []) (cop (.convert s d (.const (.int k x)))).op.operands.toList)=true:=rfl;simp only[hp,if_true]
 have he:yB P (execOp (Env.val []) (cop (.convert s d (.const (.int k x)))))=some (.value (.int k' (k'.wrap x))):=by
  show yB P (do let v <- convert s d (.int k x);pure (Next.value v))=_;unfold convert;simp only[dB,yA,hs,hd,zNI];rfl
 rw[he];exact bL rfl rfl
theorem qY2 {s d:TypeId}{x:ByteArray}{u:TypeDesc}(hs:P.underlying s=some u)(hd:P.underlying d=some .string):aY P (fun a=>.convert s d a) (fvv (.string x))=some (fvv (.string x)):=by
 have hl:pl (fvv (.string x))=some (.string x):=rfl;unfold aY;rw[hl];unfold qNG kG;have hp:zQ (kP (Env.val []) (cop (.convert s d (.const (.string x)))).op.operands.toList)=true:=rfl;simp only[hp,if_true]
 have he:yB P (execOp (Env.val []) (cop (.convert s d (.const (.string x)))))=some (.value (.string x)):=by
  show yB P (do let v <- convert s d (.string x);pure (Next.value v))=_;unfold convert;simp only[dB,yA,hs,hd,zNI];cases u <;> rfl
 rw[he];exact bL rfl rfl
end Go.Sv
namespace Go.Sv
open Go.Idl
noncomputable section
variable [Gc]
variable [Yl]
variable {P:Program}{h:SH}{R:Type}{r:R}
def qD6:SV->Option Value
 | .d (.int k) x=>some (.int k x)
 | .d .bool x=>some (.bool x)
 | .d .str x=>some (.string x)
 | .c v=>some v
 | _=>none
theorem rM {v:SV}{a:Value}(e:qD6 v=some a):v.enc=fvv a:=by
 unfold qD6 at e;split at e <;> cases e <;> simp[SV.enc,Ty.fv,fvv]
def qGM:List SV->Option (List Value)
 | []=>some []
 | v::l=>match qD6 v,qGM l with
   | some a,some b=>some (a::b)
   | _,_=>none
def eP:SV->Option Value
 | .agg l=>(match qGM l with
   | some vs=>some (.agg vs.toArray)
   | none=>none)
 | v=>qD6 v
theorem qEF:∀ {l:List SV} {vs:List Value},qGM l=some vs->qKD (qB l)=some vs
 | [],vs,e=>by cases e;simp[qB,qKD]
 | v::l,vs,e=>by
   unfold qGM at e;split at e
   ·rename_i a b ha hb;cases e;simp only[qB,rM ha,fvv,qKD,pl1,qEF hb]
   ·cases e
theorem uZ {v:SV}{a:Value}(e:eP v=some a):pl v.enc=some a:=by
 unfold eP at e;split at e
 ·rename_i l;split at e
  ·rename_i vs hvs;cases e;simp only[SV.enc,pl,qEF hvs]
  ·cases e
 ·rw[rM e];rfl
def zEM (op:BinOp)(a b:ByteArray)(K:SV->zE9 R)(F:zE9 R):zE9 R:=match op with
 | .add=>.ite (Nat.ble (a.size+b.size) 9223372036854775807) (K (.d .str (a++b))) .fail
 | .eql=>K (.d .bool (a.toList==b.toList))
 | .neq=>K (.d .bool (!(a.toList==b.toList)))
 | _=>F
def qK9 (P:Program)(t:TypeId):Bool:=match P.underlying t with
 | some .string=>true
 | _=>false
omit [Yl] in
theorem p8 {t:TypeId}(e:qK9 P t=true):P.underlying t=some .string:=by
 unfold qK9 at e;split at e
 ·assumption
 ·cases e
def qNT (P:Program)(t:TypeId)(s:ByteArray)(ix:SV)(K:SV->zE9 R):zE9 R:=match asI ix with
 | some (_,i)=>cond (qK9 P t) (.bind (q4W s i) fun c=>K (.d (.int .u8) c)) .fail
 | none=>.fail
def qU0 (P:Program)(t:TypeId)(s:ByteArray)(lo hi:Option SV)(K:SV->zE9 R):zE9 R :=
 cond (qK9 P t) (qOY s.size s.size hi fun b=>qOY 0 b lo fun a=>K (.d .str (s.extract a b))) .fail
def q1W (P:Program)(s d:TypeId)(x:SV)(K:SV->zE9 R)(F:zE9 R):zE9 R:=match P.underlying s,P.underlying d with
 | some _,some (.int k')=>(match asI x with
   | some (_,a)=>K (.d (.int k') (k'.wrap a))
   | none=>F)
 | some _,some .string=>(match asS x with
   | some a=>K (.d .str a)
   | none=>F)
 | _,_=>F
def Ty.vals:(t:Ty)->List Value->Option (t.sem×List Value)
 | .int k,.int k' x::l=>cond (decide (k'=k)) (some (x,l)) none
 | .bool,.bool x::l=>some (x,l)
 | .str,.string x::l=>some (x,l)
 | .unit,l=>some ((),l)
 | .pair a b,l=>match a.vals l with
   | some (x,l1)=>(match b.vals l1 with
     | some (y,l2)=>some ((x,y),l2)
     | none=>none)
   | none=>none
 | _,_=>none
def Ty.ofV (t:Ty)(v:Value):Option t.sem:=cond t.one (match t.vals [v] with
 | some (x,[])=>some x
 | _=>none) (match v with
 | .agg a=>(match t.vals a.toList with
   | some (x,[])=>some x
   | _=>none)
 | _=>none)
def q82 (t:Ty)(x:t.sem):SV:=cond t.one (.d t x) (.agg (t.svs x))
omit [Yl] in
theorem qS4 (t:Ty)(x:t.sem):(q82 t x).ok h:=by
 unfold q82
 cases t.one with
 | true=>simp[SV.ok]
 | false=>simp only[cond_false,SV.ok];exact qDN t x
omit [Yl] in
theorem qIJ:∀ {a b:List Value},jZ okC a=true->jZ okC b=true->jZ okC (a++b)=true
 | [],_,_,h=>h
 | x::a,b,h1,h2=>by
   rw[vD,zMY] at h1;rw[zPD,vD,h1.1,qIJ h1.2 h2];rfl
omit [Yl] in
theorem bR:∀ {t:Ty} {l l':List Value} {x:t.sem},t.vals l=some (x,l')->∃ us,l=us++l'∧jZ okC us=true∧kP fvv us=(t.cells x).map PV.f
 | .int k,l,l',x,e=>by
   cases l with
   | nil=>cases e
   | cons v l =>
     cases v <;> try (cases e;done)
     rename_i k' y;have e:cond (decide (k'=k)) (some ((y:Int),l)) none=some (x,l'):=e
     cases hk:decide (k'=k) with
     | false=>rw[hk] at e;cases e
     | true =>
       rw[hk] at e;cases e;have:k'=k:=by simpa using hk
       subst this;exact⟨[.int k' x],rfl,rfl,rfl⟩
 | .bool,l,l',x,e=>by
   cases l with
   | nil=>cases e
   | cons v l =>
     cases v <;> try (cases e;done)
     cases e;exact⟨[.bool x],rfl,rfl,rfl⟩
 | .str,l,l',x,e=>by
   cases l with
   | nil=>cases e
   | cons v l =>
     cases v <;> try (cases e;done)
     cases e;exact⟨[.string x],rfl,rfl,rfl⟩
 | .unit,l,l',x,e=>by
   have e:some ((),l)=some ((),l'):=by cases l <;> exact e
   cases e;exact⟨[],rfl,rfl,rfl⟩
 | .list _ _,l,l',x,e=>by cases l <;> cases e
 | .raw,l,l',x,e=>by cases l <;> cases e
 | .ol _ _,l,l',x,e=>by cases l <;> cases e
 | .nif,l,l',x,e=>by cases l <;> cases e
 | .fnv _,l,l',x,e=>by cases l <;> cases e
 | .pair a b,l,l',x,e=>by
   have e:(match a.vals l with
    | some (x,l1)=>(match b.vals l1 with
      | some (y,l2)=>some ((x,y),l2)
      | none=>none)
    | none=>none)=some (x,l'):=by cases l <;> exact e
   split at e
   ·rename_i x1 l1 h1;split at e
    ·rename_i y l2 h2;cases e;obtain⟨us,rfl,u1,u2⟩:=bR h1;obtain⟨ws,rfl,w1,w2⟩:=bR h2;refine⟨us++ws,by rw[zNN],?_,?_⟩
     ·exact qIJ u1 w1
     ·show _=(a.cells x1++b.cells y).map PV.f;rw[xC] at u2 w2 ⊢;rw[zN6,zN6,u2,w2]
    ·cases e
   ·cases e
theorem qT2 {t:Ty}{v:Value}{x:t.sem}(e:t.ofV v=some x):ofC v=(q82 t x).enc:=by
 unfold Ty.ofV at e;unfold q82
 cases ht:t.one with
 | true =>
   rw[ht] at e;simp only[cond_true] at e ⊢;split at e
   ·rename_i y hy;cases e;obtain⟨us,h1,h2,h3⟩:=bR hy;rw[zOT] at h1;subst h1;rw[Ty.cells_one ht] at h3
    have h3:fvv v=.f (t.fv x):=by
     have:kP fvv [v]=[fvv v]:=rfl;rw[this] at h3;simpa using h3
    have h2:okC v=true:=by
     rw[vD,zMY] at h2;exact h2.1
    have:ofC v=fvv v:=by
     unfold okC at h2;rw[zMY] at h2
     cases v <;> first | (exact absurd h2.2 (by decide)) | skip
     all_goals first | (show q8G _=_;unfold q8G okC;simp[h2.1,h2.2]) | (simp[oneCell] at h2)
    rw[this,h3];simp[SV.enc]
   ·cases e
 | false =>
   rw[ht] at e;simp only[cond_false] at e ⊢;split at e
   ·rename_i a;split at e
    ·rename_i y hy;cases e;obtain⟨us,h1,h2,h3⟩:=bR hy;rw[zOT] at h1;show cond (jZ okC a.toList) (PV.agg (kP fvv a.toList)) .unk=_;rw[h1,h2,h3];simp only[cond_true,SV.enc,gQ]
    ·cases e
   ·cases e
def smp (x:SV)(h:SH):Option (Nat×List (Value×Value)):=match x with
 | .mp k=>(match slk k h.l with
   | some (.spc _ (.map es))=>some (k,es)
   | _=>none)
 | _=>none
omit [Yl] in
theorem bH:∀ (n:Nat) (es:List (Value×Value)) (i:Nat),(xU n es)[i]?=(es[i]?).map fun p=>(⟨p.1,p.2,n+i⟩:MapEntry)
 | n,[],i=>by simp[xU]
 | n,p::es,0=>by simp[xU]
 | n,p::es,i+1=>by
   show (xU (n+1) es)[i]?=_;rw[bH (n+1) es i];have:n+1+i=n+(i+1):=by omega
   rw[this];simp
omit [Yl] in
theorem qJ0:∀ (n:Nat) (es:List (Value×Value)),(xU n es).length=es.length
 | n,[]=>rfl
 | n,p::es=>by
   show (xU (n+1) es).length+1=_;rw[qJ0,zNZ]
omit [Yl] in
theorem qKX:∀ (n:Nat) (es:List (Value×Value)) (k v:Value),xU n (es++[(k,v)])=xU n es++[⟨k,v,n+es.length⟩]
 | n,[],k,v=>rfl
 | n,p::es,k,v=>by
   show _::xU (n+1) (es++[(k,v)])=_;rw[qKX (n+1) es k v];show _=_::(xU (n+1) es++_);rw[zNZ];have:n+1+es.length=n+(es.length+1):=by omega
   rw[this]
omit [Yl] in
theorem qT9 (es:List (Value×Value))(i:Nat)(k v:Value)(f:MapEntry->MapEntry)(hf:∀ p,es[i]?=some p->f ⟨p.1,p.2,i⟩=⟨k,v,i⟩):xU 0 (es.set i (k,v))=(xU 0 es).modify i f:=by
 apply zOI;intro j;rw[bH,List.getElem?_modify,bH,zNU,zNY];by_cases hij:i=j
 ·subst hij;rw[if_pos rfl];simp only[if_true]
  cases he:es[i]? with
  | none =>
    have:¬ i < es.length:=fun hl=>by rw[zM2 hl] at he;cases he
    rw[if_neg this];rfl
  | some p =>
    have:=(zM6.1 he).1;rw[if_pos this];simp[hf p he]
 ·rw[if_neg hij];simp only[if_neg hij];cases es[j]? <;> rfl
theorem q5G {x:SV}{k:Nat}{es:List (Value×Value)}(hs:spec P 1000000001=true)(e:smp x h=some (k,es)):rO P x.enc (qD h.l)=some (k,(SpO.map es).enc,es.length,xU 0 es)∧∃ w,slk k h.l=some (.spc w (.map es)):=by
 unfold smp at e;split at e
 ·rename_i k';split at e
  ·rename_i w es' hk;cases e;refine⟨?_,w,hk⟩;simp only[SV.enc,rO,zM hk]
   show cond (spec P 1000000001&&Nat.beq 1000000001 1000000001) (match mapOf (wQ es.length (xU 0 es)) with
    | some (c,es')=>some (k,(SO.spc w (SpO.map es)).enc,c,es')
    | none=>none) none=_
   rw[hs,qON];rfl
  ·cases e
 ·cases e
def q7A (P:Program)(kt:TypeId)(k:Value)(es:List (Value×Value)):Option Bool:=(mP P kt k (xU 0 es)).map Option.isSome
def q64 (P:Program)(kt:TypeId)(t:Ty)(k:Value)(es:List (Value×Value)):Option t.sem:=match mP P kt k (xU 0 es) with
 | some (some i)=>(match es[i]? with
   | some p=>t.ofV p.2
   | none=>none)
 | _=>none
def q78 (ok:Bool)(t:Ty)(x:t.sem)(b:Bool):SV:=cond ok (.tup [q82 t x,.c (.bool b)]) (q82 t x)
theorem qOW {ok b:Bool}{t:Ty}{x:t.sem}{v:Value}(e:t.ofV v=some x):q3W ok v b=(q78 ok t x b).enc:=by
 unfold q3W q78
 cases ok with
 | true=>simp[qT2 e,SV.enc,qB]
 | false=>exact qT2 e
omit [Yl] in
theorem qWX {ok b:Bool}{t:Ty}{x:t.sem}:(q78 ok t x b).ok h:=by
 unfold q78
 cases ok with
 | true=>simp only[cond_true,SV.ok,okL,and_true];exact qS4 t x
 | false=>exact qS4 t x
def qNE (P:Program)(t:TypeId)(m kx:SV)(ok:Bool)(h:SH)(K:SV->zE9 R):zE9 R:=match P.underlying t,smp m h,eP kx with
 | some (.map kt et),some (_,es),some kv=>(match qED P 8 et,fD P et with
   | some vt,some z=>(match vt.ofV z with
     | some z0=>cond (spec P 1000000001&&yF z) (.bind (q7A P kt kv es) fun b=>.ite b (.bind (q64 P kt vt kv es) fun x=>K (q78 ok vt x true)) (K (q78 ok vt z0 false))) .fail
     | none=>.fail)
   | _,_=>.fail)
 | _,_,_=>.fail
theorem qRG {t:TypeId}{m kx:SV}{ok:Bool}{K:SV->zE9 R}(e:(qNE P t m kx ok h K).run=some r):∃ v,uL P t m.enc kx.enc ok (qD h.l)=some v.enc∧v.ok h∧(K v).run=some r:=by
 unfold qNE at e;split at e
 case h_2=>cases e
 rename_i kt et k es kv hu hm hk;split at e
 case h_2=>cases e
 rename_i vt z hvt hz;split at e
 case h_2=>cases e
 rename_i z0 hz0;obtain⟨c,e1⟩:=qF e;rw[zMY] at c;obtain⟨b,hb,e2⟩:=run_bind e1;obtain⟨h1,w,h2⟩:=q5G c.1 hm
 have pre:uL P t m.enc kx.enc ok (qD h.l)=(match mP P kt kv (xU 0 es) with
  | some (some i)=>(match (xU 0 es)[i]? with
    | some e=>some (q3W ok e.val true)
    | none=>none)
  | some none=>some (q3W ok z false)
  | none=>none):=by
  unfold uL;rw[hu,h1,uZ hk];simp only[hz,c.2,cond_true];rfl
 rw[pre];unfold q7A at hb
 cases hf:mP P kt kv (xU 0 es) with
 | none=>rw[hf] at hb;cases hb
 | some o =>
   rw[hf] at hb
   cases o with
   | none =>
     cases hb;refine⟨_,by simp only[qOW hz0],qWX,e2⟩
   | some i =>
     cases hb;obtain⟨x,hx,e3⟩:=run_bind (show (zE9.bind (q64 P kt vt kv es) fun x=>K (q78 ok vt x true)).run=some r from e2);unfold q64 at hx;rw[hf] at hx;simp only at hx;split at hx
     ·rename_i p hp;refine⟨_,?_,qWX,e3⟩;simp only[bH,hp,zNE,qOW hx]
     ·cases hx
def q8L (P:Program)(kt:TypeId)(k v:Value)(es:List (Value×Value)):Option (List (Value×Value)):=match mP P kt k (xU 0 es) with
 | some (some i)=>(match es[i]? with
   | some p=>cond (Instr.sameBits 10000 p.1 k) (some (es.set i (k,v))) none
   | none=>none)
 | some none=>some (es++[(k,v)])
 | none=>none
def rC (P:Program)(t:TypeId)(m kx x:SV)(h:SH)(K:SV->SH->zE9 R):zE9 R:=match P.underlying t,smp m h,eP kx,eP x with
 | some (.map kt _),some (k,es),some kv,some xv=>cond (spec P 1000000001&&zI xv) (.bind (q8L P kt kv xv es) fun es'=>K (.tup []) (h.put k fun v=>.spc v (.map es'))) .fail
 | _,_,_,_=>.fail
theorem qFV {k:Nat}{es es':List (Value×Value)}{w:Nat}(ho:OkH P h)(hk:slk k h.l=some (.spc w (.map es))):Keep h (h.put k fun v=>.spc v (.map es'))∧OkH P (h.put k fun v=>.spc v (.map es')) ∧
 qD (h.put k fun v=>.spc v (.map es')).l=xL k { (SpO.map es).enc with cs:=wQ es'.length (xU 0 es') } (qD h.l):=by
 have:=jW (f:=fun v=>.spc v (.map es')) ho hk rfl;exact⟨this.1,this.2,xG k _ _⟩
theorem qFB {t:TypeId}{m kx x:SV}{K:SV->SH->zE9 R}(ho:OkH P h)(e:(rC P t m kx x h K).run=some r) :
 ∃ h',jE P t m.enc kx.enc x.enc (qD h.l)=some (qD h'.l)∧Keep h h'∧OkH P h'∧(K (.tup []) h').run=some r:=by
 unfold rC at e;split at e
 case h_2=>cases e
 rename_i kt et k es kv xv hu hm hkv hxv;obtain⟨c,e1⟩:=qF e;rw[zMY] at c;obtain⟨es',hs,e2⟩:=run_bind e1;obtain⟨h1,w,h2⟩:=q5G c.1 hm;obtain⟨p1,p2,p3⟩:=qFV (es':=es') ho h2;refine⟨_,?_,p1,p2,e2⟩;unfold jE;rw[hu,h1,uZ hkv,uZ hxv,p3];simp only[c.2,cond_true];unfold q8L at hs
 cases hf:mP P kt kv (xU 0 es) with
 | none=>rw[hf] at hs;cases hs
 | some o =>
   rw[hf] at hs
   cases o with
   | none =>
     cases hs;simp only[qKX,zNK,zNZ,zQ8,zNY]
   | some i =>
     simp only at hs ⊢;split at hs
     ·rename_i p hp
      cases hb:Instr.sameBits 10000 p.1 kv with
      | false=>rw[hb] at hs;cases hs
      | true =>
        rw[hb] at hs;cases hs;simp only[bH,hp,zNE,hb,cond_true];rw[qT9 es i kv xv (fun e=>{ e with key:=kv,val:=xv }) (fun _ _=>rfl),zOB]
     ·cases hs
def qO6 (P:Program)(k:Nat)(h:SH)(K:SV->SH->zE9 R):zE9 R:=cond (spec P 1000000001) (K (.mp k) (h.new k fun v=>.spc v (.map []))) .fail
theorem qNS {k:Nat}{K:SV->SH->zE9 R}(ho:OkH P h)(e:(qO6 P k h K).run=some r):∃ v h',dH P k (qD h.l)=some (v.enc,qD h'.l)∧Post P h h' v∧(K v h').run=some r:=by
 obtain⟨c,e1⟩:=qF e;have hp:=yN (k:=k) (f:=fun v=>.spc v (.map [])) ho rfl;refine⟨_,_,?_,⟨hp.1,hp.2,by simp[SV.ok]⟩,e1⟩;unfold dH;rw[c];simp only[cond_true,qCP,SV.enc];rfl
def q50 (P:Program)(ts:Array TypeId)(x:SV)(h:SH):Option SV:=match smp x h with
 | some (_,es)=>cond (spec P 1000000001&&zBG P ts) (some (.d (.int .i64) ((List.length es:Nat):Int))) none
 | none=>none
theorem q04 {ts:Array TypeId}{x v:SV}(e:q50 P ts x h=some v):qC3 P ts x.enc (qD h.l)=some v.enc∧v.ok h:=by
 unfold q50 at e;split at e
 case h_2=>cases e
 rename_i k es hm
 cases hc:(spec P 1000000001&&zBG P ts) with
 | false=>rw[hc] at e;cases e
 | true =>
   rw[hc] at e;cases e;rw[zMY] at hc;refine⟨?_,by simp[SV.ok]⟩;unfold smp at hm;split at hm
   case h_2=>cases hm
   rename_i k';split at hm
   case h_2=>cases hm
   rename_i w es' hk;cases hm
   have h1:rT P (SV.enc (.mp k)) (qD h.l)=some (wQ es.length (xU 0 es)):=by
    simp only[SV.enc,rT,zM hk];show cond (!false&&(spec P 1000000001&&Nat.beq 1000000001 1000000001)) (some (wQ es.length (xU 0 es))) none=_;rw[hc.1];rfl
   unfold qC3;rw[h1];simp only[hc.2,cond_true,gJ,qJ0];have:(3*es.length+1) / 3=es.length:=by omega
   rw[this];simp[SV.enc,Ty.fv,fvv]
def qYA (P:Program)(t:TypeId)(x:SV)(k:Nat)(h:SH)(K:SV->SH->zE9 R):zE9 R:=match asS x with
 | some s=>cond (qK9 P t&&spec P 1000000000) (K (.ref k 0 2) (h.new k fun v=>.spc v (.iter s 0))) .fail
 | none=>.fail
theorem qVF {t:TypeId}{x:SV}{k:Nat}{K:SV->SH->zE9 R}(ho:OkH P h)(e:(qYA P t x k h K).run=some r):∃ v h',rR P t x.enc k (qD h.l)=some (v.enc,qD h'.l)∧Post P h h' v∧(K v h').run=some r:=by
 unfold qYA at e;split at e
 case h_2=>cases e
 rename_i s hs;obtain⟨c,e1⟩:=qF e;rw[zMY] at c;have hp:=yN (k:=k) (f:=fun v=>.spc v (.iter s 0)) ho rfl;refine⟨_,_,?_,⟨hp.1,hp.2,by simp[SV.ok]⟩,e1⟩;unfold rR;have hpl:pl (fvv (.string s))=some (.string s):=rfl;rw[p8 c.1,uT hs,hpl];simp only[c.2,cond_true,qCP,SV.enc];rfl
def q76 (P:Program)(x:SV)(h:SH)(K:SV->SH->zE9 R):zE9 R:=match x with
 | .ref k off w=>(match slk k h.l with
   | some (.spc _ (.iter s pos))=>cond (spec P 1000000000&&(Nat.beq w 2&&Nat.beq off 0)) (.ite (decide (pos < s.size))
      (K (.tup [.c (.bool true),.d (.int .i64) (pos:Int),.d (.int .i32) ((Utf8.decode s pos).1:Int)]) (h.put k fun v=>.spc v (.iter s (pos+(Utf8.decode s pos).2))))
      (K (.tup [.c (.bool false)]) h)) .fail
   | _=>.fail)
 | _=>.fail
theorem qZL {x:SV}{K:SV->SH->zE9 R}(ho:OkH P h)(e:(q76 P x h K).run=some r):∃ v h',qKW P x.enc (qD h.l)=some (v.enc,qD h'.l)∧Post P h h' v∧(K v h').run=some r:=by
 unfold q76 at e;split at e
 case h_2=>cases e
 rename_i k off w;split at e
 case h_2=>cases e
 rename_i w0 s pos hk;obtain⟨c,e1⟩:=qF e
 have pre:qKW P (SV.enc (.ref k off w)) (qD h.l)=cond (decide (pos < s.size))
  (some (PV.tup [fvv (.bool true),fvv (.int .i64 (pos:Int)),fvv (.int .i32 (Utf8.decode s pos).1)],xL k { (SpO.iter s pos).enc with cs:=aD s (pos+(Utf8.decode s pos).2) } (qD h.l)))
  (some (.tup [fvv (.bool false)],qD h.l)):=by
  simp only[SV.enc,qKW,zM hk];show cond (spec P 1000000000&&(Nat.beq 1000000000 1000000000&&(Nat.beq w 2&&Nat.beq off 0))) _ none=_;have:(Nat.beq 1000000000 1000000000)=true:=rfl;rw[this,zPX,c];rfl
 rw[pre]
 rcases run_ite e1 with ⟨z,e2⟩ | ⟨z,e2⟩
 ·rw[z];have hp:=jW (f:=fun v=>.spc v (.iter s (pos+(Utf8.decode s pos).2))) ho hk rfl;refine⟨_,_,?_,⟨hp.1,hp.2,by simp[SV.ok,okL]⟩,e2⟩;simp only[cond_true,SV.enc,qB,Ty.fv,fvv];rw[show qD (h.put k fun v=>.spc v (.iter s (pos+(Utf8.decode s pos).2))).l=_ from xG k _ _];rfl
 ·rw[z];exact⟨_,_,by simp[SV.enc,qB],⟨.refl _,ho,by simp[SV.ok,okL]⟩,e2⟩
def q4N (P:Program)(t:TypeId):Bool:=match P.underlying t with
 | some (.map _ _)=>true
 | _=>false
def qNO (P:Program)(t:TypeId)(x:SV)(k:Nat)(h:SH)(K:SV->SH->zE9 R):zE9 R:=match smp x h with
 | some (j,es)=>cond (q4N P t&&(spec P 1000000001&&(spec P 1000000002&&!(j==k)))) (K (.ref k 0 4) (h.new k fun v=>.spc v (.mit t j (List.length es) 0 []))) .fail
 | none=>qYA P t x k h K
theorem qSO {t:TypeId}{x:SV}{k:Nat}{K:SV->SH->zE9 R}(ho:OkH P h)(e:(qNO P t x k h K).run=some r):∃ v h',rR P t x.enc k (qD h.l)=some (v.enc,qD h'.l)∧Post P h h' v∧(K v h').run=some r:=by
 unfold qNO at e;split at e
 case h_2=>exact qVF ho e
 rename_i j es hs;obtain⟨c,e1⟩:=qF e;simp only[zMY,zNJ] at c;obtain⟨c1,c2,c3,c4⟩:=c;obtain⟨h1,w,h2⟩:=q5G c2 hs
 have hx:x=.mp j:=by
  unfold smp at hs;split at hs
  ·split at hs
   ·cases hs;rfl
   ·cases hs
  ·cases hs
 have hp:=yN (k:=k) (f:=fun v=>.spc v (.mit t j (List.length es) 0 [])) ho rfl;refine⟨_,_,?_,⟨hp.1,hp.2,by simp[SV.ok]⟩,e1⟩;unfold rR;unfold q4N at c1;split at c1
 ·rename_i kt et hu;rw[hu];subst hx;have he:(SV.mp j).enc=.mp j:=by simp[SV.enc]
  rw[he] at h1 ⊢;have hpl:pl (.mp j)=none:=rfl;rw[hpl];simp only[h1,c3,c4,zRF,zNX,cond_true,qCP,SV.enc];rfl
 ·cases c1
end
end Go.Sv
namespace Go.Sv
open Go.Idl
variable {a:Int}{b:Bool}{env:List SV}{k:IntKind}{o:Oper}{op:BinOp}{ph:PHp}{s:ByteArray}{t t2 ty:TypeId}{ts:Array TypeId}{x y:SV}
noncomputable section
variable [Gc]
variable [Yl]
variable {P:Program}{h:SH}{R:Type}{r:R}
def q5B (k:IntKind):PV->Option Int
 | .f (.v (.int k' x))=>cond (decide (k'=k)) (some x) none
 | _=>none
def q7S:PV->Option Bool
 | .f (.v (.bool x))=>some x
 | _=>none
def q7B:PV->Option ByteArray
 | .f (.v (.string x))=>some x
 | _=>none
def Ty.zK2:(t:Ty)->PV->Option t.sem
 | .int k,p=>q5B k p
 | .bool,p=>q7S p
 | .str,p=>q7B p
 | .raw,_=>none
 | .ol _ _,_=>none
 | .nif,_=>none
 | .fnv _,_=>none
 | .unit,_=>none
 | .list _ _,_=>none
 | .pair _ _,_=>none
omit [Yl] in
theorem q6I:∀ {t:Ty} {p:PV} {x:t.sem},t.zK2 p=some x->p=.f (t.fv x)
 | .int k,p,x,e=>by
   have e1:q5B k p=some x:=e;clear e;unfold q5B at e1;split at e1
   ·rename_i k' y;have e:=e1;clear e1
    cases hk:decide (k'=k) with
    | false=>rw[hk] at e;cases e
    | true =>
      rw[hk] at e;cases e;have:k'=k:=by simpa using hk
      subst this;rfl
   ·cases e1
 | .bool,p,x,e=>by
   have e1:q7S p=some x:=e;clear e;unfold q7S at e1;split at e1
   ·cases e1;rfl
   ·cases e1
 | .str,p,x,e=>by
   have e1:q7B p=some x:=e;clear e;unfold q7B at e1;split at e1
   ·cases e1;rfl
   ·cases e1
 | .unit,_,_,e=>by cases e
 | .list _ _,_,_,e=>by cases e
 | .pair _ _,_,_,e=>by cases e
 | .raw,_,_,e=>by cases e
 | .ol _ _,_,_,e=>by cases e
 | .nif,_,_,e=>by cases e
 | .fnv _,_,_,e=>by cases e
def Ty.zG2 (t:Ty)(o:Option PV):Option t.sem:=o.bind t.zK2
theorem qO5 {t:Ty}{o:Option PV}{x:t.sem}(e:t.zG2 o=some x):o=some (SV.d t x).enc:=by
 obtain⟨p,h1,h2⟩:=zOZ.1 e;rw[h1,q6I h2];simp[SV.enc]
def sint (op:BinOp)(k:IntKind)(a b:Int)(K:SV->zE9 R)(F:zE9 R):zE9 R:=match op with
 | .lss=>K (.d .bool (decide (a < b)))
 | .leq=>K (.d .bool (decide (a<=b)))
 | .gtr=>K (.d .bool (decide (b < a)))
 | .geq=>K (.d .bool (decide (b<=a)))
 | .eql=>K (.d .bool (a==b))
 | .neq=>K (.d .bool (a != b))
 | .add=>K (.d (.int k) (k.wrap (a+b)))
 | .sub=>K (.d (.int k) (k.wrap (a - b)))
 | .mul=>K (.d (.int k) (k.wrap (a*b)))
 | .quo=>.bind (zCL k a b) fun c=>K (.d (.int k) c)
 | .rem=>.bind (zCJ a b) fun c=>K (.d (.int k) c)
 | _=>F
omit [Yl] in
theorem q5N {x y:PV}{a b:Value}(hx:pl x=some a)(hy:pl y=some b):jP P op t t2 x y ph=jP P op t t2 (fvv a) (fvv b) []:=by
 unfold jP;rw[hx,hy];rfl
def qR1 (P:Program)(op:BinOp)(t t2 ty:TypeId)(x y:SV)(K:SV->zE9 R):zE9 R:=match eP x,eP y,qED P 8 ty with
 | some a,some b,some u=>.bind (u.zG2 (jP P op t t2 (fvv a) (fvv b) [])) fun z=>K (.d u z)
 | _,_,_=>.fail
def zC7 (P:Program)(t:TypeId)(x y:SV)(h:SH):Option Bool:=match y with
 | .c (.slice none _ _)=>cond (zR P t).isSome (match x with
   | .own k g n=>(match slk k h.l with
     | some (.list _ gr g' _ _ _)=>cond (Nat.beq g g') (some (gr&&Nat.beq n 0)) none
     | _=>none)
   | .sl k g n _ _=>(match slk k h.l with
     | some (.list _ gr g' _ _ _)=>cond (Nat.beq g g') (some (gr&&Nat.beq n 0)) none
     | _=>none)
   | _=>none) none
 | .c .nilFunc=>cond (qUE P t) (match x with
   | .fn _ _ _=>some false
   | _=>none) none
 | _=>none
theorem qUQ (ho:OkH P h)(hx:x.ok h)(e:zC7 P t x y h=some b):qEB P t x.enc y.enc (qD h.l)=some b∧pl x.enc=none:=by
 unfold zC7 at e;split at e
 ·rename_i n c
  cases h1:(zR P t).isSome with
  | false=>rw[h1] at e;cases e
  | true =>
    rw[h1] at e;simp only[cond_true] at e;split at e
    ·rename_i k g n;split at e
     ·rename_i el gr g' w u xs hk
      cases h2:Nat.beq g g' with
      | false=>rw[h2] at e;cases e
      | true =>
        rw[h2] at e;cases e;have hg:g=g':=zMZ h2;subst hg;simp only[SV.ok] at hx;have hn:=hx.2 _ _ _ _ _ hk;have hl:=ho.list _ _ _ _ _ _ _ hk;refine⟨?_,by simp[SV.enc,pl]⟩;simp only[SV.enc,fvv,qEB,h1,cond_true,isNil,zM hk];rw[show (SO.list el gr g w u xs).enc.el=el from rfl,hl.2.1];simp only[qR,hn,aA,cond_true];rfl
     ·cases e
    ·rename_i k g n o m;split at e
     ·rename_i el gr g' w u xs hk
      cases h2:Nat.beq g g' with
      | false=>rw[h2] at e;cases e
      | true =>
        rw[h2] at e;cases e;have hg:g=g':=zMZ h2;subst hg;simp only[SV.ok] at hx;have hn:=hx.1.2 _ _ _ _ _ hk;have hl:=ho.list _ _ _ _ _ _ _ hk;refine⟨?_,by simp[SV.enc,pl]⟩;simp only[SV.enc,fvv,qEB,h1,cond_true,isNil,zM hk];rw[show (SO.list el gr g w u xs).enc.el=el from rfl,hl.2.1];simp only[qR,hn,aA,cond_true];rfl
     ·cases e
    ·cases e
 ·cases h1:qUE P t with
  | false=>rw[h1] at e;cases e
  | true =>
    rw[h1] at e;simp only[cond_true] at e;split at e
    ·cases e;exact⟨by simp[SV.enc,fvv,qEB,h1,qP8],by simp[SV.enc,pl]⟩
    ·cases e
 ·cases e
def q6A (P:Program)(t:TypeId)(x y:SV):Option Bool:=match x,y with
 | .d (.ol _ _) xs,.c (.slice none 0 0)=>cond (zR P t).isSome (some (List.isEmpty xs)) none
 | _,_=>none
theorem qPZ (e:q6A P t x y=some b):jP P .eql t t2 x.enc y.enc ph=some (fvv (.bool b))∧jP P .neq t t2 x.enc y.enc ph=some (fvv (.bool !b)):=by
 unfold q6A at e;split at e
 ·rename_i el k xs
  cases h1:(zR P t).isSome with
  | false=>rw[h1] at e;cases e
  | true =>
    rw[h1] at e;cases e
    cases xs with
    | nil =>
      have hn:qEB P t (fvv (.slice none 0 0)) (fvv (.slice none 0 0)) ph=some true:=by simp only[qEB,fvv,h1,cond_true,isNil]
      have hv:∀ H,VR P (fun _=>True) H (own (fun _=>0) ph) (fvv (.slice none 0 0)) (.slice none 0 0):=fun H=>.f (.v rfl rfl)
      constructor
      ·have:=(qHN (op:=.eql) (o:=cop (.binOp .eql t (.const (.slice none 0 0)) (.const (.slice none 0 0)) t2)) (env:=[]) (hv H00) (hv H00) hn).1;simp only[SV.enc,Ty.fv,fvo];show jP P .eql t t2 (fvv (.slice none 0 0)) (fvv (.slice none 0 0)) ph=_;unfold jP;rw[show pl (fvv (.slice none 0 0))=some (.slice none 0 0) from rfl];simp only[this];rfl
      ·have:=(qHN (op:=.neq) (o:=cop (.binOp .neq t (.const (.slice none 0 0)) (.const (.slice none 0 0)) t2)) (env:=[]) (hv H00) (hv H00) hn).2;simp only[SV.enc,Ty.fv,fvo];show jP P .neq t t2 (fvv (.slice none 0 0)) (fvv (.slice none 0 0)) ph=_;unfold jP;rw[show pl (fvv (.slice none 0 0))=some (.slice none 0 0) from rfl];simp only[this];rfl
    | cons x xs =>
      have hn:qEB P t (.f (fvo el k (x::xs))) (fvv (.slice none 0 0)) ph=some false:=by
       simp only[qEB,fvv,h1,cond_true,fvo,zNQ,zPD,isNil]
      constructor
      ·simp only[SV.enc,Ty.fv];show uN P t (.f (fvo el k (x::xs))) (fvv (.slice none 0 0)) ph _=_;unfold uN;rw[hn];rfl
      ·simp only[SV.enc,Ty.fv];show uN P t (.f (fvo el k (x::xs))) (fvv (.slice none 0 0)) ph _=_;unfold uN;rw[hn];rfl
 ·cases e
def q5I (P:Program)(t:TypeId)(x y:SV):Option Bool:=match x,y with
 | .d (.list _ u) xs,.c (.slice none 0 0)=>cond ((zR P t).isSome&&Nat.blt 0 u.w) (some (List.isEmpty xs)) none
 | _,_=>none
theorem tC (e:q5I P t x y=some b) :
 (b=true->jP P .eql t t2 x.enc y.enc ph=some .bq∧jP P .neq t t2 x.enc y.enc ph=some .bq)∧(b=false->jP P .eql t t2 x.enc y.enc ph=some (fvv (.bool false))∧jP P .neq t t2 x.enc y.enc ph=some (fvv (.bool true))):=by
 unfold q5I at e;split at e
 case h_2=>cases e
 rename_i el u xs
 cases h1:((zR P t).isSome&&Nat.blt 0 u.w) with
 | false=>rw[h1] at e;cases e
 | true =>
   rw[h1] at e;cases e;rw[zMY] at h1;obtain⟨h1,h2⟩:=h1;have h2:0 < u.w:=zM9 h2
   cases xs with
   | nil =>
     have hq:qQ1 P t (.f (.l el 0 [])) (fvv (.slice none 0 0))=some .bq:=by simp only[qQ1,fvv,h1,cond_true]
     have hn:qEB P t (.f (.l el 0 [])) (fvv (.slice none 0 0)) ph=none:=by simp only[qEB,fvv,h1,cond_true,isNil]
     refine⟨fun _=>?_,fun h=>(by cases h)⟩;simp only[SV.enc,Ty.fv,List.flatMap_nil,zQ8];constructor
     ·show uN P t (.f (.l el 0 [])) (fvv (.slice none 0 0)) ph _=_;unfold uN;rw[hn];exact hq
     ·show uN P t (.f (.l el 0 [])) (fvv (.slice none 0 0)) ph _=_;unfold uN;rw[hn];exact hq
   | cons x xs =>
     refine⟨fun h=>(by cases h),fun _=>?_⟩
     obtain⟨c,cs,hcs⟩:∃ c cs,List.flatMap u.cells (x::xs)=c::cs:=by
      cases hf:List.flatMap u.cells (x::xs) with
      | nil =>
        have:=congrArg List.length hf;rw[zU,zNZ,zPS] at this;simp at this;omega
      | cons c cs=>exact⟨c,cs,rfl⟩
     have hn:qEB P t (.f (.l el (xs.length+1) (c::cs))) (fvv (.slice none 0 0)) ph=some false:=by simp only[qEB,fvv,h1,cond_true,isNil]
     simp only[SV.enc,Ty.fv,hcs,zNZ];constructor
     ·show uN P t (.f (.l el (xs.length+1) (c::cs))) (fvv (.slice none 0 0)) ph _=_;unfold uN;rw[hn]
     ·show uN P t (.f (.l el (xs.length+1) (c::cs))) (fvv (.slice none 0 0)) ph _=_;unfold uN;rw[hn];rfl
def q60 (P:Program)(op:BinOp)(t t2 ty:TypeId)(x y:SV)(h:SH)(K:SV->zE9 R):zE9 R:=match zC7 P t x y h,op with
 | some b,.eql=>K (.d .bool b)
 | some b,.neq=>K (.d .bool (!b))
 | _,_=>qR1 P op t t2 ty x y K
def q6T (P:Program)(op:BinOp)(t t2 ty:TypeId)(x y:SV)(h:SH)(K:SV->zE9 R):zE9 R:=match q5I P t x y,op with
 | some b,.eql=>.ite b (K .bq) (K (.d .bool false))
 | some b,.neq=>.ite b (K .bq) (K (.d .bool true))
 | _,_=>q60 P op t t2 ty x y h K
def zDT (P:Program)(op:BinOp)(t t2 ty:TypeId)(x y:SV)(h:SH)(K:SV->zE9 R):zE9 R:=match asI x,asI y with
 | some (k,a),some (k',b)=>cond (decide (k=k')) (sint op k a b K (qR1 P op t t2 ty x y K)) (qR1 P op t t2 ty x y K)
 | _,_=>(match asS x,asS y with
   | some a,some b=>zEM op a b K (qR1 P op t t2 ty x y K)
   | _,_=>(match q6A P t x y,op with
     | some b,.eql=>K (.d .bool b)
     | some b,.neq=>K (.d .bool (!b))
     | _,_=>q6T P op t t2 ty x y h K))
theorem tO {K:SV->zE9 R}(e:(qR1 P op t t2 ty x y K).run=some r):∃ v,jP P op t t2 x.enc y.enc (qD h.l)=some v.enc∧v.ok h∧(K v).run=some r:=by
 unfold qR1 at e;split at e
 ·rename_i a b u ha hb hu;obtain⟨z,hz,e1⟩:=run_bind e;refine⟨_,?_,by simp[SV.ok],e1⟩;rw[q5N (uZ ha) (uZ hb)];exact qO5 hz
 ·cases e
theorem q2V {K:SV->zE9 R}(ho:OkH P h)(hx:x.ok h)(e:(q60 P op t t2 ty x y h K).run=some r):∃ v,jP P op t t2 x.enc y.enc (qD h.l)=some v.enc∧v.ok h∧(K v).run=some r:=by
 unfold q60 at e;split at e
 ·rename_i b hs;obtain⟨h1,h2⟩:=qUQ ho hx hs;refine⟨_,?_,by simp[SV.ok],e⟩;unfold jP;rw[h2];simp[uN,h1,SV.enc,Ty.fv,fvv]
 ·rename_i b hs;obtain⟨h1,h2⟩:=qUQ ho hx hs;refine⟨_,?_,by simp[SV.ok],e⟩;unfold jP;rw[h2];simp[uN,h1,SV.enc,Ty.fv,fvv]
 ·exact tO e
theorem qZ3 {K:SV->zE9 R}(ho:OkH P h)(hx:x.ok h)(e:(q6T P op t t2 ty x y h K).run=some r):∃ v,jP P op t t2 x.enc y.enc (qD h.l)=some v.enc∧v.ok h∧(K v).run=some r:=by
 unfold q6T at e;split at e
 ·rename_i b hs
  rcases run_ite e with ⟨z,e1⟩ | ⟨z,e1⟩
  ·exact⟨.bq,by rw[((tC hs).1 z).1];simp[SV.enc],by simp[SV.ok],e1⟩
  ·exact⟨.d .bool false,by rw[((tC hs).2 z).1];simp[SV.enc,Ty.fv,fvv],by simp[SV.ok],e1⟩
 ·rename_i b hs
  rcases run_ite e with ⟨z,e1⟩ | ⟨z,e1⟩
  ·exact⟨.bq,by rw[((tC hs).1 z).2];simp[SV.enc],by simp[SV.ok],e1⟩
  ·exact⟨.d .bool true,by rw[((tC hs).2 z).2];simp[SV.enc,Ty.fv,fvv],by simp[SV.ok],e1⟩
 ·exact q2V ho hx e
theorem q5D {K:SV->zE9 R}(ho:OkH P h)(hx:x.ok h)(e:(zDT P op t t2 ty x y h K).run=some r):∃ v,jP P op t t2 x.enc y.enc (qD h.l)=some v.enc∧v.ok h∧(K v).run=some r:=by
 unfold zDT at e;split at e
 ·rename_i k a k' b ha hb
  cases hk:decide (k=k') with
  | false=>rw[hk] at e;exact tO e
  | true =>
    rw[hk] at e;have hkk:k=k':=by simpa using hk
    subst hkk;simp only[cond_true] at e;have ha':=yD ha;have hb':=yD hb
    have fin:∀ {v:SV},jP P op t t2 (fvv (.int k a)) (fvv (.int k b)) (qD h.l)=some v.enc->v.ok h->(K v).run=some r->∃ v,jP P op t t2 x.enc y.enc (qD h.l)=some v.enc∧v.ok h∧(K v).run=some r:=fun h1 h2 h3=>⟨_,by rw[ha',hb'];exact h1,h2,h3⟩
    unfold sint at e;split at e
    ·exact fin (v:=.d .bool (decide (a < b))) q9U (by simp[SV.ok]) e
    ·exact fin (v:=.d .bool (decide (a<=b))) q91 (by simp[SV.ok]) e
    ·exact fin (v:=.d .bool (decide (b < a))) zAZ (by simp[SV.ok]) e
    ·exact fin (v:=.d .bool (decide (b<=a))) zBO (by simp[SV.ok]) e
    ·exact fin (v:=.d .bool (a==b)) q9V (by simp[SV.ok]) e
    ·exact fin (v:=.d .bool (a != b)) q98 (by simp[SV.ok]) e
    ·exact fin (v:=.d (.int k) (k.wrap (a+b))) q89 (by simp[SV.ok]) e
    ·exact fin (v:=.d (.int k) (k.wrap (a - b))) zAA (by simp[SV.ok]) e
    ·exact fin (v:=.d (.int k) (k.wrap (a*b))) zBQ (by simp[SV.ok]) e
    ·obtain⟨c,hc,e1⟩:=run_bind e;exact fin (v:=.d (.int k) c) (zA5 hc) (by simp[SV.ok]) e1
    ·obtain⟨c,hc,e1⟩:=run_bind e;exact fin (v:=.d (.int k) c) (q9O hc) (by simp[SV.ok]) e1
    ·exact tO e
 ·split at e
  ·rename_i a b ha hb;have ha':=uT ha;have hb':=uT hb;unfold zEM at e;split at e
   ·rcases run_ite e with ⟨z,e1⟩ | ⟨z,e1⟩
    ·exact⟨.d .str (a++b),by rw[ha',hb',q7G (zM9 z)];simp[SV.enc,Ty.fv,fvv],by simp[SV.ok],e1⟩
    ·cases e1
   ·exact⟨.d .bool (a.toList==b.toList),by rw[ha',hb',q7F];simp[SV.enc,Ty.fv,fvv],by simp[SV.ok],e⟩
   ·exact⟨.d .bool (!(a.toList==b.toList)),by rw[ha',hb',q7L];simp[SV.enc,Ty.fv,fvv],by simp[SV.ok],e⟩
   ·exact tO e
  split at e
  ·rename_i b hs;exact⟨_,by rw[(qPZ hs).1];simp[SV.enc,Ty.fv,fvv],by simp[SV.ok],e⟩
  ·rename_i b hs;exact⟨_,by rw[(qPZ hs).2];simp[SV.enc,Ty.fv,fvv],by simp[SV.ok],e⟩
  exact qZ3 ho hx e
def qX2 (P:Program)(mk:Operand->Op)(ty:TypeId)(x:SV)(K:SV->zE9 R):zE9 R:=match qD6 x,qED P 8 ty with
 | some a,some u=>.bind (u.zG2 (aY P mk (fvv a))) fun z=>K (.d u z)
 | _,_=>.fail
theorem qOS {mk:Operand->Op}{K:SV->zE9 R}(e:(qX2 P mk ty x K).run=some r):∃ v,aY P mk x.enc=some v.enc∧v.ok h∧(K v).run=some r∧∃ a,qD6 x=some a:=by
 unfold qX2 at e;split at e
 ·rename_i a u ha hu;obtain⟨z,hz,e1⟩:=run_bind e;exact⟨_,by rw[rM ha];exact qO5 hz,by simp[SV.ok],e1,a,ha⟩
 ·cases e
def sun (P:Program)(op:UnOp)(t ty:TypeId)(x:SV)(K:SV->zE9 R):zE9 R:=match op,asI x,asB x with
 | .neg,some (k,a),_=>K (.d (.int k) (k.wrap (0 - a)))
 | .not,_,some b=>K (.d .bool (!b))
 | _,_,_=>qX2 P (fun a=>.unOp op t a) ty x K
omit [Yl] in
theorem q6P {x:Int}:aY P (fun a=>.unOp .neg t a) (fvv (.int k x))=some (fvv (.int k (k.wrap (0 - x)))):=rfl
theorem q96 {op:UnOp}{K:SV->zE9 R}(e:(sun P op t ty x K).run=some r):∃ v,aY P (fun a=>.unOp op t a) x.enc=some v.enc∧v.ok h∧(K v).run=some r:=by
 unfold sun at e;split at e
 ·rename_i k a ha;exact⟨_,by rw[yD ha,q6P];simp[SV.enc,Ty.fv,fvv],by simp[SV.ok],e⟩
 ·rename_i b hb;exact⟨_,by rw[rG hb,zAM];simp[SV.enc,Ty.fv,fvv],by simp[SV.ok],e⟩
 ·obtain⟨v,h1,h2,h3,_⟩:=qOS (h:=h) e;exact⟨v,h1,h2,h3⟩
def dM (env:List SV)(l:Array Operand):List SV:=l.toList.map (xS env)
theorem gG (env:List SV)(l:Array Operand):l.toList.map (qJ (qB env))=qB (dM env l):=by
 unfold dM;rw[zD (l.toList.map (xS env)),zO6];exact zOK fun x _=>qN env x
omit [Yl] in
theorem fA (ho:okL h env)(l:Array Operand):okL h (dM env l):=zK.2 fun x hx=>by
 obtain⟨q,_,rfl⟩:=zNO.1 hx;exact mH ho _
def smm (lo:Bool)(x y:SV)(K:SV->zE9 R):zE9 R:=match asI x,asI y with
 | some (k,a),some (k',b)=>cond (decide (k=k')) (K (.d (.int k) (cond lo (cond (decide (b < a)) b a) (cond (decide (a < b)) b a)))) .fail
 | _,_=>.fail
omit [Yl] in
theorem dmin {x y:Operand}{b:Int}{env:Env}(hx:env.val x=.int k a)(hy:env.val y=.int k b) :
 qSH (kG P (cop (.call ⟨.builtin .min,#[x,y],ts⟩) ty) env H00)=some (fvv (.int k (if b < a then b else a))):=by
 have h2:kP env.val (cop (.call ⟨.builtin .min,#[x,y],ts⟩) ty).op.operands.toList=[env.val x,env.val y]:=rfl;unfold kG;rw[h2];simp only[cop,execOp,resolve,List.map_toArray,zNH,zO7,hx,hy];rfl
omit [Yl] in
theorem dmax {x y:Operand}{b:Int}{env:Env}(hx:env.val x=.int k a)(hy:env.val y=.int k b) :
 qSH (kG P (cop (.call ⟨.builtin .max,#[x,y],ts⟩) ty) env H00)=some (fvv (.int k (if a < b then b else a))):=by
 have h2:kP env.val (cop (.call ⟨.builtin .max,#[x,y],ts⟩) ty).op.operands.toList=[env.val x,env.val y]:=rfl;unfold kG;rw[h2];simp only[cop,execOp,resolve,List.map_toArray,zNH,zO7,hx,hy];rfl
omit [Yl] in
theorem qV4 {p:Prop}[Decidable p]{α:Type}{x y:α}:cond (decide p) x y=if p then x else y:=by
 by_cases h:p <;> simp[h]
theorem q3O {lo:Bool}{c:Call}{K:SV->zE9 R}(hl:dM env c.args=[x,y])(hc:c.callee=.builtin (cond lo .min .max))(e:(smm lo x y K).run=some r) :
 ∃ v,vR P (cond lo .min .max) c [x.enc,y.enc] (qB env) ty (qD h.l)=some (v.enc,qD h.l)∧v.ok h∧(K v).run=some r:=by
 unfold smm at e;split at e
 ·rename_i k a k' b ha hb
  cases hk:decide (k=k') with
  | false=>rw[hk] at e;cases e
  | true =>
    rw[hk] at e;have:k=k':=by simpa using hk
    subst this;have e1:=yD ha;have e2:=yD hb;refine⟨_,?_,by simp[SV.ok],e⟩;obtain⟨cal,args,ts⟩:=c;simp only at hc hl;subst hc;unfold dM at hl
    have hal:∃ p q,args=#[p,q]∧xS env p=x∧xS env q=y:=by
     obtain⟨l⟩:=args
     match l,hl with
     | [p,q],hl=>simp at hl;exact⟨p,q,rfl,hl.1,hl.2⟩
    obtain⟨p,q,rfl,hp,hq⟩:=hal;have vp:(qRO (qB env)).val p=.int k a:=bX P (by rw[qN,hp,e1];rfl);have vq:(qRO (qB env)).val q=.int k b:=bX P (by rw[qN,hq,e2];rfl);unfold vR;rw[e1,e2];have hpl:plL [fvv (.int k a),fvv (.int k b)]=some [.int k a,.int k b]:=rfl;rw[hpl]
    cases lo with
    | true =>
      simp only[cond_true];rw[dmin vp vq,qV4];simp[pp1,SV.enc,Ty.fv,fvv]
    | false =>
      simp only[cond_false];rw[dmax vp vq,qV4];simp[pp1,SV.enc,Ty.fv,fvv]
 ·cases e
def q5T (P:Program)(ts:Array TypeId)(x:SV)(h:SH):Option SV:=match rT P x.enc (qD h.l) with
 | some _=>none
 | none=>zC0 P ts x h
theorem qY6 {v:SV}(ho:OkH P h)(hx:x.ok h)(e:q5T P ts x h=some v):qC3 P ts x.enc (qD h.l)=some v.enc∧v.ok h:=by
 unfold q5T at e;split at e
 ·cases e
 ·rename_i hn;unfold qC3;rw[hn];exact q6V ho hx e
theorem qR4 {lo hi:Option Operand}{K:SV->zE9 R}(e:(qU0 P t s (lo.map (xS env)) (hi.map (xS env)) K).run=some r) :
 ∃ v,qNG P (.slice t (.const (.string s)) (lo.map fun a=>.const ((pl (qJ (qB env) a)).getD undef)) (hi.map fun a=>.const ((pl (qJ (qB env) a)).getD undef)) none)=some v.enc∧v.ok h∧(K v).run=some r∧(plL ((lo.toList++hi.toList).map (qJ (qB env)))).isSome=true:=by
 obtain⟨c,e1⟩:=qF e;obtain⟨b,hb,_,e2⟩:=vK e1;obtain⟨a,ha,_,e3⟩:=vK e2;have m:∀ o:Option Operand,(o.map (xS env)).map SV.enc=o.map (qJ (qB env)):=fun o=>by cases o <;> simp[qN]
 rw[m] at hb ha;refine⟨.d .str (s.extract a b),by rw[q1U (p8 c) hb ha];simp[SV.enc,Ty.fv,fvv],by simp[SV.ok],e3,?_⟩
 have one:∀ {o:Option Operand} {d most n:Nat},bnd d most (o.map (qJ (qB env)))=some n->o=none∨∃ a k i,o=some a∧qJ (qB env) a=fvv (.int k i):=fun {o d most n} h=>by
  rcases qU9 h with ⟨q,_⟩ | ⟨k,i,q,_⟩
  ·cases o with
   | none=>exact .inl rfl
   | some a=>cases q
  ·cases o with
   | none=>cases q
   | some a=>exact .inr ⟨a,k,i,rfl,by simpa using q⟩
 rcases one hb with rfl | ⟨x,k,i,rfl,hx⟩ <;> rcases one ha with rfl | ⟨y,k',i',rfl,hy⟩ <;> simp_all [plL,fvv,pl]
theorem qRK {ix:SV}{K:SV->zE9 R}(e:(qNT P t s ix K).run=some r) :
 ∃ v k i,ix.enc=fvv (.int k i)∧qNG P (.index t (.const (.string s)) (.const (.int k i)))=some v.enc∧v.ok h∧(K v).run=some r:=by
 unfold qNT at e;split at e
 ·rename_i k i hi;obtain⟨c,e1⟩:=qF e;obtain⟨b,hb,e2⟩:=run_bind e1;exact⟨.d (.int .u8) b,k,i,yD hi,by rw[qZA (p8 c) hb];simp[SV.enc,Ty.fv,fvv],by simp[SV.ok],e2⟩
 ·cases e
theorem q1C {s d:TypeId}{K:SV->zE9 R}{F:zE9 R}(e:(q1W P s d x K F).run=some r):(∃ v,aY P (fun a=>.convert s d a) x.enc=some v.enc∧v.ok h∧(K v).run=some r)∨F.run=some r:=by
 unfold q1W at e;split at e
 ·rename_i u k' hs hd;split at e
  ·rename_i k a ha;exact .inl ⟨_,by rw[yD ha,q8B hs hd];simp[SV.enc,Ty.fv,fvv],by simp[SV.ok],e⟩
  ·exact .inr e
 ·rename_i u hs hd;split at e
  ·rename_i a ha;exact .inl ⟨_,by rw[uT ha,qY2 hs hd];simp[SV.enc,Ty.fv,fvv],by simp[SV.ok],e⟩
  ·exact .inr e
 ·exact .inr e
def qIY (env:List SV)(parts:Array (Nat×Operand)):List (Nat×SV):=parts.toList.map fun p=>(p.1,xS env p.2)
theorem qEX (env:List SV)(parts:Array (Nat×Operand)):(parts.toList.map fun p=>(p.1,qJ (qB env) p.2))=q8V (qIY env parts):=by
 simp[qIY,q8V,qN]
omit [Yl] in
theorem qH0 {env:List SV}(ho:okL h env)(parts:Array (Nat×Operand)):∀ p∈qIY env parts,p.2.ok h:=fun p hp=>by
 obtain⟨q,_,rfl⟩:=zNO.1 hp;exact mH ho _
def qV5:Operand->Operand->Bool
 | .tmp i,.tmp j=>Nat.beq i j
 | .const (.int k a),.const (.int k' b)=>decide (k=k')&&decide (a=b)
 | _,_=>false
omit [Yl] in
theorem qUD {a b:Operand}(e:qV5 a b=true):a=b:=by
 unfold qV5 at e;split at e
 ·rw[zMZ e]
 ·rw[zMY] at e;have h1:=of_decide_eq_true e.1;have h2:=of_decide_eq_true e.2;rw[h1,h2]
 ·cases e
def gv (o:Option SV)(h:SH)(K:SV->SH->zE9 R):zE9 R:=match o with
 | some v=>K v h
 | none=>.fail
def sop (P:Program)(o:Oper)(env:List SV)(k:Nat)(h:SH)(K:SV->SH->zE9 R):zE9 R:=match o.op with
 | .move x=>K (xS env x) h
 | .assign x=>K (xS env x) h
 | .pick c a b=>(match asB (xS env c) with
   | some t=>.ite t (K (xS env a) h) (K (xS env b) h)
   | none=>.fail)
 | .alloc el=>qXF P el k h K
 | .box el x=>zEN P el (xS env x) k h K
 | .build t parts=>gv (qXU P t (qIY env parts)) h K
 | .buildSlice t len parts=>mJ P t len (qIY env parts) k h K
 | .load t a=>q6Z P t (xS env a) h fun v=>K v h
 | .store t a x=>qUX P t (xS env a) (xS env x) h K
 | .nilCheck x=>gv (qAW (xS env x) h) h K
 | .binOp op t x y t2=>zDT P op t t2 o.type (xS env x) (xS env y) h fun v=>K v h
 | .unOp op t x=>sun P op t o.type (xS env x) fun v=>K v h
 | .convert s d x=>cond (qSB (xS env x).enc) .fail (q1W P s d (xS env x) (fun v=>K v h) (qX2 P (fun a=>.convert s d a) o.type (xS env x) fun v=>K v h))
 | .makeFunc fn first cap=>gv (qCQ fn (dM env first) (dM env cap)) h K
 | .makeSlice t l c=>cond (qV5 l c) (q6Q P t (xS env l) k h K) .fail
 | .slice t x lo hi none=>(match asS (xS env x) with
   | some s=>qU0 P t s (lo.map (xS env)) (hi.map (xS env)) fun v=>K v h
   | none=>qWW P t (xS env x) (lo.map (xS env)) (hi.map (xS env)) h fun v=>K v h)
 | .fieldAddr t x i=>gv (pR P t (xS env x) i h) h K
 | .indexAddr t x ix=>pG P t (xS env x) (xS env ix) h fun v=>K v h
 | .index t x ix=>(match asS (xS env x) with
   | some s=>qNT P t s (xS env ix) fun v=>K v h
   | none=>qWR P t (xS env x) (xS env ix) fun v=>K v h)
 | .extract t i=>gv (qF5 (xS env t) i) h K
 | .makeMap _ none=>qO6 P k h K
 | .lookup t m kx ok=>qNE P t (xS env m) (xS env kx) ok h fun v=>K v h
 | .mapUpdate t m kx x=>rC P t (xS env m) (xS env kx) (xS env x) h K
 | .range t x=>qNO P t (xS env x) k h K
 | .next it true=>q76 P (xS env it) h K
 | .call c=>(match c.callee,dM env c.args with
   | .builtin .append,[x,y]=>q8A P c.argTypes.toList x y k h K
   | .builtin .copy,[x,y]=>q7V P c.argTypes.toList x y h K
   | .builtin .len,[x]=>cond (qYX P c.argTypes) (match asS x with
     | some s=>K (.d (.int .i64) (s.size:Int)) h
     | none=>.fail) (match q50 P c.argTypes x h with
     | some v=>K v h
     | none=>gv (q5T P c.argTypes x h) h K)
   | .builtin .min,[x,y]=>smm true x y fun v=>K v h
   | .builtin .max,[x,y]=>smm false x y fun v=>K v h
   | _,_=>.fail)
 | _=>.fail
omit [Yl] in
theorem qQY {o:Option SV}{K:SV->SH->zE9 R}(e:(gv o h K).run=some r):∃ v,o=some v∧(K v h).run=some r:=by
 unfold gv at e;split at e
 ·exact⟨_,rfl,e⟩
 ·cases e
theorem q3N {k:Nat}{K:SV->SH->zE9 R}(ho:OkH P h)(he:okL h env)(e:(sop P o env k h K).run=some r) :
 ∃ v h',sS P o (qB env) k (qD h.l)=some (v.enc,qD h'.l)∧Post P h h' v∧(K v h').run=some r:=by
 have same:∀ {v:SV},v.ok h->Post P h h v:=fun hv=>⟨.refl _,ho,hv⟩
 have sv:=fun x=>mH (h:=h) he x
 unfold sop at e;unfold sS;split at e
 ·rename_i x ho';exact⟨_,_,by simp only[ho',qN],same (sv x),e⟩
 ·rename_i x ho';exact⟨_,_,by simp only[ho',qN],same (sv x),e⟩
 ·rename_i c a b ho';split at e
  ·rename_i t ht;have h1:=rG ht
   rcases run_ite e with ⟨z,e1⟩ | ⟨z,e1⟩
   ·exact⟨_,_,by simp only[ho',qN,h1,fvv,z,cond_true],same (sv a),e1⟩
   ·exact⟨_,_,by simp only[ho',qN,h1,fvv,z,cond_false],same (sv b),e1⟩
  ·cases e
 ·rename_i el ho';rw[ho'];exact qUZ ho e
 ·rename_i el x ho';rw[ho'];simp only[qN];exact q71 ho (sv x) e
 ·rename_i t parts ho';rw[ho'];obtain⟨v,h1,h2⟩:=qQY e;have h3:=qVP (qH0 he parts) h1;exact⟨v,h,by simp only[qEX,h3.1,pp1],same h3.2,h2⟩
 ·rename_i t len parts ho';rw[ho'];simp only[qEX];exact qDJ ho (qH0 he parts) e
 ·rename_i t a ho';rw[ho'];obtain⟨v,h1,h2,h3⟩:=qZW ho (sv a) e;exact⟨v,h,by simp only[qN,h1,pp1],same h2,h3⟩
 ·rename_i t a x ho';rw[ho'];obtain⟨h',h1,h2,h3,h4⟩:=qTU ho (sv a) (sv x) e;exact⟨_,h',by simp only[qN,h1,ppS];simp[SV.enc,qB],⟨h2,h3,by simp[SV.ok,okL]⟩,h4⟩
 ·rename_i x ho';rw[ho'];obtain⟨v,h1,h2⟩:=qQY e;have h3:=qJY (sv x) h1;exact⟨v,h,by simp only[qN,h3.1,pp1],same h3.2,h2⟩
 ·rename_i op t x y t2 ho';rw[ho'];obtain⟨v,h1,h2,h3⟩:=q5D ho (sv x) e;exact⟨v,h,by simp only[qN,h1,pp1],same h2,h3⟩
 ·rename_i op t x ho';rw[ho'];obtain⟨v,h1,h2,h3⟩:=q96 (h:=h) e;exact⟨v,h,by simp only[qN,h1,pp1],same h2,h3⟩
 ·rename_i s d x ho';rw[ho']
  cases hp:qSB (xS env x).enc with
  | true=>rw[hp] at e;cases e
  | false =>
    rw[hp] at e;have e1:(q1W P s d (xS env x) (fun v=>K v h) (qX2 P (fun a=>.convert s d a) o.type (xS env x) fun v=>K v h)).run=some r:=e;rcases q1C (h:=h) e1 with ⟨v,h1,h2,h3⟩ | e1
    ·exact⟨v,h,by simp only[qN,hp,cond_false,h1,pp1],same h2,h3⟩
    ·obtain⟨v,h1,h2,h3,_⟩:=qOS (h:=h) e1;exact⟨v,h,by simp only[qN,hp,cond_false,h1,pp1],same h2,h3⟩
 ·rename_i fn first cap ho'
  rw[ho'];obtain⟨v,h1,h2⟩:=qQY e;have h3:=qJS (fA he first) (fA he cap) h1;exact⟨v,h,by simp only[gG,h3.1,pp1],same h3.2,h2⟩
 ·rename_i t l c ho';rw[ho'];obtain⟨h1,h2⟩:=qF e;have:=qUD h1;subst this;simp only[qN];exact q0S ho h2
 ·rename_i t x lo hi ho';rw[ho'];split at e
  ·rename_i s hs;obtain⟨v,h1,h2,h3,h4⟩:=qR4 (h:=h) e;obtain⟨vs,hvs⟩:=zN2.1 h4;refine⟨v,h,?_,same h2,h3⟩;have hx:qJ (qB env) x=.f (.v (.string s)):=by rw[qN];exact uT hs
   simp only[hx,hvs,h1,pp1]
  obtain⟨v,h1,h2,h3⟩:=qTK ho (sv x) e;refine⟨v,h,?_,same h2,h3⟩;have m:∀ o:Option Operand,o.map (qJ (qB env))=(o.map (xS env)).map SV.enc:=fun o=>by cases o <;> simp[qN]
  simp only[qN,m]
  have ns:∀ s,(xS env x).enc≠.f (.v (.string s)):=fun s hs=>by
   rw[hs] at h1;simp only[wP] at h1;cases h1
  split
  ·rename_i s hs;exact absurd hs (ns s)
  ·rw[h1];rfl
 ·rename_i t x i ho';rw[ho'];obtain⟨v,h1,h2⟩:=qQY e;have h3:=qGH (sv x) h1;exact⟨v,h,by simp only[qN,h3.1,pp1],same h3.2,h2⟩
 ·rename_i t x ix ho';rw[ho'];obtain⟨v,h1,h2,h3⟩:=qGS ho (sv x) e;exact⟨v,h,by simp only[qN,h1,pp1],same h2,h3⟩
 ·rename_i t x ix ho';rw[ho'];split at e
  ·rename_i s hs;obtain⟨v,k',i,h0,h1,h2,h3⟩:=qRK (h:=h) e;refine⟨v,h,?_,same h2,h3⟩;have hx:=uT hs;have hpl:pl (fvv (.int k' i))=some (.int k' i):=rfl;simp only[qN,hx,h0,hpl];simp only[fvv,h1,pp1]
  obtain⟨v,h1,h2,h3,l,hl⟩:=qUR (sv x) e;refine⟨v,h,?_,same h2,h3⟩;simp only[qN];rw[hl] at h1 ⊢;simp only[SV.enc] at h1 ⊢;rw[h1];rfl
 ·rename_i t i ho';rw[ho'];obtain⟨v,h1,h2⟩:=qQY e;have h3:=qM2 (sv t) h1;exact⟨v,h,by simp only[qN,h3.1,pp1],same h3.2,h2⟩
 ·rename_i ho';rw[ho'];exact qNS ho e
 ·rename_i t m kx ok ho';rw[ho'];obtain⟨v,h1,h2,h3⟩:=qRG e;exact⟨v,h,by simp only[qN,h1,pp1],same h2,h3⟩
 ·rename_i t m kx x ho';rw[ho'];obtain⟨h',h1,h2,h3,h4⟩:=qFB ho e;exact⟨_,h',by simp only[qN,h1,ppS];simp[SV.enc,qB],⟨h2,h3,by simp[SV.ok,okL]⟩,h4⟩
 ·rename_i t x ho';rw[ho'];simp only[qN];exact qSO ho e
 ·rename_i it ho';rw[ho'];simp only[qN];exact qZL ho e
 ·rename_i c ho';rw[ho'];have ha:=gG env c.args;have hao:=fA he c.args;split at e
  ·rename_i x y hc hl;rw[hl] at ha hao;simp only[okL] at hao;simp only[hc,ha,qB,wS];exact q0X ho hao.1 hao.2.1 e
  ·rename_i x y hc hl;rw[hl] at ha hao;simp only[okL] at hao;simp only[hc,ha,qB,wS];exact q1N ho hao.1 hao.2.1 e
  ·rename_i x hc hl;rw[hl] at ha hao;simp only[okL] at hao
   cases hst:qYX P c.argTypes with
   | true =>
     rw[hst] at e;simp only[cond_true] at e;split at e
     ·rename_i s hs;refine⟨_,h,?_,same (by simp[SV.ok]),e⟩;obtain⟨cal,args,ts⟩:=c;simp only at hc hl hst;subst hc
      obtain⟨p,rfl,hp⟩:∃ p,args=#[p]∧xS env p=x:=by
       unfold dM at hl;obtain⟨l⟩:=args
       match l,hl with
       | [p],hl=>simp at hl;exact⟨p,rfl,hl⟩
      have vp:(qRO (qB env)).val p=.string s:=bX P (by rw[qN,hp,uT hs];rfl);simp only[wS,ha,qB,hst,cond_true];unfold vR;have hpl:plL [x.enc]=some [.string s]:=by rw[uT hs];rfl
      rw[hpl];simp only;rw[qQG hst vp];simp[pp1,SV.enc,Ty.fv,fvv]
     ·cases e
   | false =>
     rw[hst] at e;simp only[cond_false] at e;split at e
     ·rename_i v hv;have h3:=q04 hv;refine⟨v,h,?_,same h3.2,e⟩;simp only[hc,ha,qB,wS,hst,cond_false,h3.1,pp1]
     obtain⟨v,h1,h2⟩:=qQY e;have h3:=qY6 ho hao.1 h1;refine⟨v,h,?_,same h3.2,h2⟩;simp only[hc,ha,qB,wS,hst,cond_false,h3.1,pp1]
  ·rename_i x y hc hl;rw[hl] at ha;obtain⟨v,h1,h2,h3⟩:=q3O (h:=h) (lo:=true) (ty:=o.type) hl hc e;exact⟨v,h,by simp only[hc,ha,qB,wS];exact h1,same h2,h3⟩
  ·rename_i x y hc hl;rw[hl] at ha;obtain⟨v,h1,h2,h3⟩:=q3O (h:=h) (lo:=false) (ty:=o.type) hl hc e;exact⟨v,h,by simp only[hc,ha,qB,wS];exact h1,same h2,h3⟩
  ·cases e
 ·cases e
def zD6 (P:Program)(o:Oper)(env:List SV)(k:Nat)(h:SH)(K:SV->SH->zE9 R):zE9 R:=sop P o env k h K
theorem q59 {k:Nat}{K:SV->SH->zE9 R}(ho:OkH P h)(he:okL h env)(e:(zD6 P o env k h K).run=some r) :
 ∃ v h',q99 P o (qB env) k (qD h.l)=some (v.enc,qD h'.l)∧Post P h h' v∧(K v h').run=some r:=by
 obtain⟨v,h',h1,h2,h3⟩:=q3N ho he e;exact⟨v,h',qWU h1,h2,h3⟩
end
end Go.Sv
namespace Go.Sv
open Go.Idl
variable {as env:List SV}{d k m n o w:Nat}{el ty:TypeId}{g:FuncId}{h':SH}{nm:Nm}{v:SV}
noncomputable section
variable [Gc]
variable [Yl]
variable {P:Program}{h:SH}{R:Type}{r:R}{tab:uQ}
omit [Yl] in
theorem tN:∀ (cs:List FV) (ph:PHp) (n:Nat),sN (fz1 P n) (cs.map .f) ph=some (cs,ph)
 | [],ph,n=>rfl
 | c::cs,ph,n=>by
   have e:fz1 P n ph (.f c)=some (c,ph):=by cases n <;> rfl
   show (match fz1 P n ph (.f c) with
    | some (y,ph1)=>(match sN (fz1 P n) (cs.map .f) ph1 with
      | some (ys,ph2)=>some (y::ys,ph2)
      | none=>none)
    | none=>none)=_
   rw[e];simp only[tN cs ph n]
theorem q2M {gr:Bool}{g:Nat}{t:Ty}{xs:List t.sem}(ho:OkH P h)(hk:slk k h.l=some (.list el gr g w t xs))(hn:n=xs.length)(hom:o+m<=n) :
 fz1 P (d+1) (qD h.l) (.own k n o m)=some (.l el m (((xs.drop o).take m).flatMap t.cells),qD (h.del k).l):=by
 have hl:=ho.list _ _ _ _ _ _ _ hk;simp only[fz1,zM hk];rw[show (SO.list el gr g w t xs).enc.el=el from rfl,hl.2.1];simp only[qR,hn,aA,cond_true];rw[show (SO.list el gr g w t xs).enc.cs=(xs.flatMap t.cells).map .f from rfl,<-zPA,<-zO5,gL,gI,tN];show some _=some (_,qD (sdl k h.l));rw[fF]
def qZR (el:TypeId)(t:Ty)(k g:Nat)(f:List t.sem->List t.sem)(h:SH):Option (List t.sem×SH):=match slk k h.l with
 | some (.list el' _ g' _ u xs)=>cond (Nat.beq el' el&&Nat.beq g g') (match qC4 u t xs with
   | some xs=>some (f xs,h.del k)
   | none=>none) none
 | _=>none
def q05 (el:TypeId)(t:Ty):List SV->SH->Option (List (List t.sem)×SH)
 | [],h=>some ([],h)
 | .own k g _::l,h=>(match qZR el t k g (fun xs=>xs) h with
   | some (x,h1)=>(match q05 el t l h1 with
     | some (xs,h2)=>some (x::xs,h2)
     | none=>none)
   | none=>none)
 | _,_=>none
def qU2 (P:Program)(el e2:TypeId)(t2:Ty)(k n:Nat)(h:SH):Option (List (List t2.sem)×SH):=match slk k h.l with
 | some (.cells el' _ cs)=>cond (Nat.beq el' el&&Nat.beq n cs.length) (match szT P el with
   | some 1=>q05 e2 t2 cs (h.del k)
   | _=>none) none
 | _=>none
def zA9 (P:Program)(el:TypeId):(t:Ty)->(k n:Nat)->SH->Option (List t.sem×SH)
 | .list e2 t2,k,n,h=>qU2 P el e2 t2 k n h
 | _,_,_,_=>none
def q94 (P:Program)(el:TypeId)(t:Ty)(k g n:Nat)(h:SH):Option (List t.sem×SH):=match qZR el t k g (fun xs=>xs) h with
 | some r=>some r
 | none=>zA9 P el t k n h
def zD3 (P:Program)(ty el:TypeId)(t:Ty)(h:SH):Option (List t.sem×SH):=match zR P ty with
 | some el'=>cond (Nat.beq el' el) (some ([],h)) none
 | none=>none
def q9R (P:Program)(ty el el':TypeId)(k':IntKind)(xs:List Int):(t:Ty)->Option (List t.sem)
 | .int k=>cond (Nat.beq el' el&&decide (k'=k)) (match zR P ty with
   | some e=>cond (Nat.beq e el) (some xs) none
   | none=>none) none
 | _=>none
def qXB (t:Ty)(v:SV)(h:SH):Option (t.sem×SH):=match t.zJI v with
 | some x=>some (x,h)
 | none=>none
def q5L (P:Program)(el el':TypeId)(k w:Nat)(ik:IntKind)(h:SH):Option (List Int×SH):=match slk k h.l with
 | some (.spc w' (.arr el0 ik' xs))=>cond (Nat.beq el el'&&(Nat.beq w' w&&(decide (ik'=ik)&&!spec P el0))) (some (xs,h.del k)) none
 | _=>none
def q86 (P:Program)(el el':TypeId)(k w:Nat):(t:Ty)->SH->Option (List t.sem×SH)
 | .int ik,h=>q5L P el el' k w ik h
 | _,_=>none
omit [Yl] in
theorem qZF {k:IntKind}:∀ (xs:List Int),List.flatMap (Ty.int k).cells xs=xs.map fun x=>FV.v (.int k x)
 | []=>rfl
 | x::xs=>by rw[zNQ,qZF xs];rfl
theorem q1P {el':TypeId}:∀ {t:Ty} {h h':SH} {x:List t.sem},OkH P h->(SV.asl el' k w n).ok h->q86 P el el' k w t h=some (x,h') ->
 fz1 P 4 (qD h.l) (.asl el' k n)=some ((Ty.list el t).fv x,qD h'.l)∧Keep h h'∧OkH P h'
 | .int ik,h,h',x,ho,hv,e=>by
   have e:q5L P el el' k w ik h=some (x,h'):=e;unfold q5L at e;split at e
   ·rename_i w' el0 ik' xs hk
    cases hc:(Nat.beq el el'&&(Nat.beq w' w&&(decide (ik'=ik)&&!spec P el0))) with
    | false=>rw[hc] at e;cases e
    | true =>
      rw[hc] at e;cases e;simp only[zMY,zNJ,decide_eq_true_eq] at hc;obtain⟨h1,h2,h3,h4⟩:=hc;have h1:=zMZ h1;have h2:=zMZ h2;subst h1 h2 h3;simp only[SV.ok] at hv;obtain⟨el1,ik1,xs1,q1,q2⟩:=hv.2 _ hk rfl;cases q1;have hd:=fI (k:=k) ho;refine⟨?_,hd.1,hd.2⟩;simp only[fz1,zM hk]
      show (cond (Nat.beq n (x.map fun y=>fvv (.int ik' y)).length&&(!spec P el0&&!false)) (match sN (fz1 P 3) (x.map fun y=>fvv (.int ik' y)) (nN k (qD h.l)) with
       | some (cs,ph')=>some (FV.l el n cs,ph')
       | none=>none) none)=_
      rw[show (x.map fun y=>fvv (.int ik' y))=(x.map fun y=>FV.v (.int ik' y)).map .f by rw[zO6];rfl,tN,zNA,zNA,h4,q2];simp only[aA,zRF,zNX,cond_true];rw[show nN k (qD h.l)=qD (h.del k).l from (fF k _).symm];show some (FV.l el x.length _,_)=some (FV.l el x.length (List.flatMap (Ty.int ik').cells x),_);rw[qZF]
   ·cases e
 | .bool,_,_,_,_,_,e=>by cases e
 | .str,_,_,_,_,_,e=>by cases e
 | .raw,_,_,_,_,_,e=>by cases e
 | .nif,_,_,_,_,_,e=>by cases e
 | .fnv _,_,_,_,_,_,e=>by cases e
 | .unit,_,_,_,_,_,e=>by cases e
 | .ol _ _,_,_,_,_,_,e=>by cases e
 | .list _ _,_,_,_,_,_,e=>by cases e
 | .pair _ _,_,_,_,_,_,e=>by cases e
def qY8 (P:Program)(ty:TypeId):(t:Ty)->SV->SH->Option (t.sem×SH)
 | .list el t,.own k g n,h=>q94 P el t k g n h
 | .list el t,.sl k g _ o m,h=>qZR el t k g (fun xs=>(xs.drop o).take m) h
 | .list el t,.asl el' k w _,h=>q86 P el el' k w t h
 | .list el t,.c (.slice none 0 0),h=>zD3 P ty el t h
 | .list el t,.d (.ol el' k') xs,h=>(match q9R P ty el el' k' xs t with
   | some x=>some (x,h)
   | none=>none)
 | t,v,h=>cond t.nol (qXB t v h) none
omit [Yl] in
theorem nU:∀ {t:Ty} {x:t.sem},(t.one&&t.nol)=true->rt0 P ty (.f (t.fv x))=.f (t.fv x)
 | .int _,_,_=>rfl
 | .bool,_,_=>rfl
 | .str,_,_=>rfl
 | .raw,_,_=>rfl
 | .nif,_,_=>rfl
 | .fnv _,_,_=>rfl
 | .ol _ _,_,e=>by cases e
 | .list _ _,_,_=>rfl
 | .unit,_,e=>by cases e
 | .pair _ _,_,e=>by cases e
theorem qQC {t:Ty}{g:Nat}{f:List t.sem->List t.sem}{x:List t.sem}(ho:OkH P h)(hs:qXO h k g n)(hom:o+m<=n)(hf:∀ xs:List t.sem,xs.length=n->f xs=(xs.drop o).take m)(e:qZR el t k g f h=some (x,h')) :
 fz1 P (d+1) (qD h.l) (.own k n o m)=some ((Ty.list el t).fv x,qD h'.l)∧Keep h h'∧OkH P h':=by
 unfold qZR at e;split at e
 ·rename_i el' gr g' w u xs hk
  cases hc:(Nat.beq el' el&&Nat.beq g g') with
  | false=>rw[hc] at e;cases e
  | true =>
    rw[hc] at e;rw[zMY] at hc;have he:el'=el:=zMZ hc.1;have hg:g=g':=zMZ hc.2;subst he hg;simp only[cond_true] at e;split at e
    ·rename_i ys hys;cases wT hys;cases e;have hn:=hs.2 _ _ _ _ _ hk;have hd:=fI (k:=k) ho;refine⟨?_,hd.1,hd.2⟩;rw[q2M ho hk hn hom,hf _ hn.symm];show some (FV.l el' m _,_)=some (FV.l el' _ _,_);rw[zOA,zPQ,zOP (by omega)]
    ·cases e
 ·cases e
theorem qFK {ty:TypeId}{t:Ty}{g:Nat}{f:List t.sem->List t.sem}{x:List t.sem}(ho:OkH P h)(hs:qXO h k g n)(hom:o+m<=n)(hf:∀ xs:List t.sem,xs.length=n->f xs=(xs.drop o).take m)(e:qZR el t k g f h=some (x,h')) :
 fz1 P 4 (qD h.l) (.own k n o m)=some ((Ty.list el t).fv x,qD h'.l)∧Keep h h'∧OkH P h' :=
 qQC (d:=3) ho hs hom hf e
theorem qPL {el:TypeId}{t:Ty}:∀ {l:List SV} {h h':SH} {x:List (List t.sem)},OkH P h->okL h l->q05 el t l h=some (x,h') ->
 sN (fz1 P 3) (qB l) (qD h.l)=some (x.map (Ty.list el t).fv,qD h'.l)∧Keep h h'∧OkH P h'∧x.length=l.length
 | [],h,h',x,ho,hl,e=>by
   cases e;exact⟨rfl,.refl _,ho,rfl⟩
 | v::l,h,h',x,ho,hl,e=>by
   cases v with
   | own k g n =>
     have e:(match qZR el t k g (fun xs=>xs) h with
      | some (x,h1)=>(match q05 el t l h1 with
        | some (xs,h2)=>some (x::xs,h2)
        | none=>none)
      | none=>none)=some (x,h'):=e
     split at e
     ·rename_i y h1 hy;split at e
      ·rename_i ys h2 hys;cases e;simp only[okL,SV.ok] at hl;obtain⟨a1,a2,a3⟩:=qQC (d:=2) (n:=n) (o:=0) (m:=n) ho hl.1 (by omega) (fun xs hl=>by rw[zOH,<-hl,zPE]) hy;obtain⟨b1,b2,b3,b4⟩:=qPL a3 (qI a2 hl.2) hys;refine⟨?_,a2.trans b2,b3,by simp[b4]⟩
       show (match fz1 P 3 (qD h.l) (.own k n 0 n) with
        | some (y,ph1)=>(match sN (fz1 P 3) (qB l) ph1 with
          | some (ys,ph2)=>some (y::ys,ph2)
          | none=>none)
        | none=>none)=_
       rw[a1];simp only[b1];rfl
      ·cases e
     ·cases e
   | _=>cases e
theorem q1X:∀ {t:Ty} {k n g:Nat} {h h':SH} {x:List t.sem},OkH P h->zA9 P el t k n h=some (x,h') ->
 fz1 P 4 (qD h.l) (.own k n 0 n)=some ((Ty.list el t).fv x,qD h'.l)∧Keep h h'∧OkH P h'
 | .list e2 t2,k,n,g,h,h',x,ho,e=>by
   have e:qU2 P el e2 t2 k n h=some (x,h'):=e;unfold qU2 at e;split at e
   ·rename_i el' w cs hk
    cases hc:(Nat.beq el' el&&Nat.beq n cs.length) with
    | false=>rw[hc] at e;cases e
    | true =>
      rw[hc] at e;simp only[cond_true] at e;rw[zMY] at hc;have h1:=zMZ hc.1;have h2:=zMZ hc.2;subst h1;split at e
      ·rename_i hs;have hd:=fI (k:=k) ho;obtain⟨b1,b2,b3,b4⟩:=qPL hd.2 (qI hd.1 (ho.cells _ _ _ _ hk)) e;refine⟨?_,hd.1.trans b2,b3⟩;simp only[fz1,zM hk]
       show (match szT P el' with
        | some s=>cond (Nat.beq (n*s) (qB cs).length) (match sN (fz1 P 3) (((qB cs).drop (0*s)).take (n*s)) (nN k (qD h.l)) with
          | some (cs,ph')=>some (FV.l el' n cs,ph')
          | none=>none) none
        | none=>none)=_
       rw[hs];simp only[Nat.mul_one,zQE,zOH,qP,h2,aA,cond_true];rw[zNR (by rw[qP];exact zM0 _),show nN k (qD h.l)=qD (h.del k).l from (fF k _).symm,b1];show some (FV.l el' cs.length (x.map (Ty.list e2 t2).fv),_)=some (FV.l el' x.length (x.flatMap (Ty.list e2 t2).cells),_);rw[b4]
       have hf:∀ y:List (List t2.sem),y.flatMap (Ty.list e2 t2).cells=y.map (Ty.list e2 t2).fv:=fun y=>by
        induction y with
        | nil=>rfl
        | cons a y ih=>rw[zNQ,ih];rfl
       rw[hf]
      ·cases e
   ·cases e
 | .int _,_,_,_,_,_,_,_,e=>by cases e
 | .bool,_,_,_,_,_,_,_,e=>by cases e
 | .str,_,_,_,_,_,_,_,e=>by cases e
 | .unit,_,_,_,_,_,_,_,e=>by cases e
 | .pair _ _,_,_,_,_,_,_,_,e=>by cases e
 | .raw,_,_,_,_,_,_,_,e=>by cases e
 | .ol _ _,_,_,_,_,_,_,_,e=>by cases e
 | .nif,_,_,_,_,_,_,_,e=>by cases e
 | .fnv _,_,_,_,_,_,_,_,e=>by cases e
theorem qP9 {t:Ty}{x:t.sem}(ho:OkH P h)(hv:v.ok h)(e:qY8 P ty t v h=some (x,h')) :
 ∃ y,fz1 P 4 (qD h.l) v.enc=some (y,qD h'.l)∧rt0 P ty (.f y)=.f (t.fv x)∧(t.one&&t.nol)=true∧Keep h h'∧OkH P h':=by
 unfold qY8 at e;split at e
 ·rename_i el t k g n;simp only[SV.ok] at hv;unfold q94 at e;split at e
  ·rename_i r hr;cases e;obtain⟨h1,h2,h3⟩:=qFK (ty:=ty) (n:=n) (o:=0) (m:=n) ho hv (by omega) (fun xs hl=>by rw[zOH,<-hl,zPE]) hr;exact⟨_,by simp only[SV.enc];exact h1,nU rfl,rfl,h2,h3⟩
  ·obtain⟨h1,h2,h3⟩:=q1X (g:=g) ho e;exact⟨_,by simp only[SV.enc];exact h1,nU rfl,rfl,h2,h3⟩
 ·rename_i el t k g n o m;simp only[SV.ok] at hv;obtain⟨h1,h2,h3⟩:=qFK (ty:=ty) (n:=n) (o:=o) (m:=m) ho hv.1 hv.2 (fun xs hl=>rfl) e;exact⟨_,by simp only[SV.enc];exact h1,nU rfl,rfl,h2,h3⟩
 ·rename_i el t el' k w n;obtain⟨h1,h2,h3⟩:=q1P ho hv e;exact⟨_,by simp only[SV.enc];exact h1,nU rfl,rfl,h2,h3⟩
 ·rename_i el t;unfold zD3 at e;split at e
  ·rename_i el' hel
   cases hc:Nat.beq el' el with
   | false=>rw[hc] at e;cases e
   | true =>
     rw[hc] at e;cases e;have he:el'=el:=zMZ hc;subst he;refine⟨.v (.slice none 0 0),by simp only[SV.enc,fvv,fz1],?_,rfl,.refl _,ho⟩
     show (match zR P ty with
      | some el=>PV.f (.l el 0 [])
      | none=>fvv (.slice none 0 0))=_
     rw[hel];rfl
  ·cases e
 ·rename_i el t el' k' xs;split at e
  ·rename_i y hy;cases e;unfold q9R at hy;split at hy
   ·rename_i k _
    cases hc:(Nat.beq el' el&&decide (k'=k)) with
    | false=>rw[hc] at hy;cases hy
    | true =>
      rw[hc] at hy;rw[zMY] at hc;have h1:el'=el:=zMZ hc.1;have h2:k'=k:=by simpa using hc.2
      subst h1 h2;simp only[cond_true] at hy;split at hy
      ·rename_i e0 he0
       cases hc2:Nat.beq e0 el' with
       | false=>rw[hc2] at hy;cases hy
       | true =>
         rw[hc2] at hy;cases hy;have h3:e0=el':=zMZ hc2;subst h3;refine⟨fvo e0 k' xs,by simp only[SV.enc];rfl,?_,rfl,.refl _,ho⟩
         cases xs with
         | nil =>
           show (match zR P ty with
            | some el=>PV.f (.l el 0 [])
            | none=>fvv (.slice none 0 0))=_
           rw[he0];rfl
         | cons x xs=>rfl
      ·cases hy
   ·cases hy
  ·cases e
 ·obtain⟨zL5,e⟩:t.nol=true∧qXB t v h=some (x,h'):=by
   cases hn:t.nol with
   | true=>rw[hn] at e;exact⟨rfl,e⟩
   | false=>rw[hn] at e;cases e
  unfold qXB at e;split at e
  ·rename_i y hy;cases e;obtain⟨h1,h2⟩:=sU hy;have h3:(t.one&&t.nol)=true:=by rw[h2,zL5];rfl
   exact⟨_,by rw[h1];rfl,nU h3,h3,.refl _,ho⟩
  ·cases e
def zC9 (P:Program)(ty:TypeId)(t:Ty)(v:SV)(h:SH):Option (t.sem×SH):=cond (Gc.ol ty) (qXB t v h) (qY8 P ty t v h)
theorem q4V {t:Ty}{x:t.sem}(ho:OkH P h)(hv:v.ok h)(e:zC9 P ty t v h=some (x,h')) :
 ∃ y,fz1 P 4 (qD h.l) v.enc=some (y,qD h'.l)∧rtC P ty (.f y)=.f (t.fv x)∧rtC P ty (.f (t.fv x))=.f (t.fv x)∧t.one=true∧Keep h h'∧OkH P h':=by
 unfold zC9 at e;unfold rtC
 cases hc:Gc.ol ty with
 | true =>
   rw[hc] at e;simp only[cond_true] at e ⊢;unfold qXB at e;split at e
   ·rename_i y hy;cases e;obtain⟨h1,h2⟩:=sU hy;exact⟨_,by rw[h1];rfl,rfl,trivial,h2,.refl _,ho⟩
   ·cases e
 | false =>
   rw[hc] at e;simp only[cond_false] at e ⊢;obtain⟨y,a1,a2,a3,a4,a5⟩:=qP9 ho hv e;exact⟨y,a1,a2,nU a3,(by rw[zMY] at a3;exact a3.1),a4,a5⟩
def qC2 (P:Program)(t:Ty)(tys:List TypeId)(l:List SV)(h:SH):Option (t.sem×List TypeId×List SV×SH):=match tys,l with
 | ty::tys,v::l=>(match zC9 P ty t v h with
   | some (x,h')=>some (x,tys,l,h')
   | none=>none)
 | _,_=>none
def Ty.zH8 (P:Program):(t:Ty)->List TypeId->List SV->SH->Option (t.sem×List TypeId×List SV×SH)
 | .unit,tys,l,h=>some ((),tys,l,h)
 | .pair a b,tys,l,h=>match a.zH8 P tys l h with
   | some (x,zIY,l1,h1)=>(match b.zH8 P zIY l1 h1 with
     | some (y,zK3,l2,h2)=>some ((x,y),zK3,l2,h2)
     | none=>none)
   | none=>none
 | .int k,tys,l,h=>qC2 P (.int k) tys l h
 | .bool,tys,l,h=>qC2 P .bool tys l h
 | .str,tys,l,h=>qC2 P .str tys l h
 | .raw,tys,l,h=>qC2 P .raw tys l h
 | .ol el k,tys,l,h=>qC2 P (.ol el k) tys l h
 | .nif,tys,l,h=>qC2 P .nif tys l h
 | .fnv g,tys,l,h=>qC2 P (.fnv g) tys l h
 | .list el t,tys,l,h=>qC2 P (.list el t) tys l h
def zD8 (P:Program)(t:Ty)(tys:List TypeId)(l:List SV)(h:SH)(x:t.sem)(zFQ:List TypeId)(l':List SV)(h':SH):Prop :=
 okL h' l'∧Keep h h'∧OkH P h'∧∃ ys:List FV,(∀ zs p,sN (fz1 P 4) (qB l') (qD h'.l)=some (zs,p)->sN (fz1 P 4) (qB l) (qD h.l)=some (ys++zs,p)) ∧
  ∀ zs:List PV,rtL (rtC P) tys (ys.map .f++zs)=(t.cells x).map .f++rtL (rtC P) zFQ zs∧rtL (rtC P) tys ((t.cells x).map .f++zs)=(t.cells x).map .f++rtL (rtC P) zFQ zs
theorem w9 {t:Ty}{tys zFQ:List TypeId}{l l':List SV}{x:t.sem}(ho:OkH P h)(hl:okL h l)(e:qC2 P t tys l h=some (x,zFQ,l',h')):zD8 P t tys l h x zFQ l' h':=by
 unfold qC2 at e;split at e
 ·rename_i ty tys v l;split at e
  ·rename_i y h1 hd;cases e;simp only[okL] at hl;obtain⟨y,a1,a2,a2',a3,a4,a5⟩:=q4V ho hl.1 hd;refine⟨qI a4 hl.2,a4,a5,[y],fun zs p hz=>?_,fun zs=>⟨?_,?_⟩⟩
   ·simp only[qB,sN,a1,hz];rfl
   ·show rtC P ty (.f y)::rtL (rtC P) _ zs=_;rw[a2,Ty.cells_one a3];rfl
   ·rw[Ty.cells_one a3];show rtC P ty (.f (t.fv _))::rtL (rtC P) _ zs=_;rw[a2'];rfl
  ·cases e
 ·cases e
theorem qBA:∀ {t:Ty} {tys zFQ:List TypeId} {l l':List SV} {h:SH} {x:t.sem} {h':SH},OkH P h->okL h l->t.zH8 P tys l h=some (x,zFQ,l',h')->zD8 P t tys l h x zFQ l' h'
 | .unit,tys,zFQ,l,l',h,x,h',ho,hl,e=>by
   cases e;exact⟨hl,.refl _,ho,[],fun zs p hz=>hz,fun zs=>⟨rfl,rfl⟩⟩
 | .int k,tys,zFQ,l,l',h,x,h',ho,hl,e=>w9 ho hl e
 | .bool,tys,zFQ,l,l',h,x,h',ho,hl,e=>w9 ho hl e
 | .str,tys,zFQ,l,l',h,x,h',ho,hl,e=>w9 ho hl e
 | .raw,tys,zFQ,l,l',h,x,h',ho,hl,e=>w9 ho hl e
 | .ol _ _,tys,zFQ,l,l',h,x,h',ho,hl,e=>w9 ho hl e
 | .nif,tys,zFQ,l,l',h,x,h',ho,hl,e=>w9 ho hl e
 | .fnv _,tys,zFQ,l,l',h,x,h',ho,hl,e=>w9 ho hl e
 | .list el t,tys,zFQ,l,l',h,x,h',ho,hl,e=>w9 ho hl e
 | .pair a b,tys,zFQ,l,l',h,x,h',ho,hl,e=>by
   unfold Ty.zH8 at e;split at e
   ·rename_i x1 zIY l1 h1 hd1;split at e
    ·rename_i y zK3 l2 h2 hd2;cases e;obtain⟨a1,a2,a3,ys,a4,a5⟩:=qBA ho hl hd1;obtain⟨b1,b2,b3,zs,b4,b5⟩:=qBA a3 a1 hd2;refine⟨b1,a2.trans b2,b3,ys++zs,fun us p hu=>?_,fun us=>⟨?_,?_⟩⟩
     ·rw[zNN];exact a4 _ _ (b4 _ _ hu)
     ·rw[zN6,zNN,(a5 _).1,(b5 _).1];show _=(a.cells x1++b.cells y).map PV.f++_;rw[zN6,zNN]
     ·show rtL (rtC P) _ ((a.cells x1++b.cells y).map PV.f++us)=(a.cells x1++b.cells y).map PV.f++_;rw[zN6,zNN,(a5 _).2,(b5 _).2,zNN]
    ·cases e
   ·cases e
def q7C (P:Program)(ty:TypeId)(t:Ty)(v:SV)(h:SH):Option (t.sem×SH):=cond t.one (match v with
 | .agg _=>none
 | v=>qY8 P ty t v h) (match v with
 | .agg l=>(match t.zH8 P (vS P 8 ty) l h with
   | some (x,_,[],h')=>some (x,h')
   | _=>none)
 | _=>none)
theorem qCL {t:Ty}{x:t.sem}(ho:OkH P h)(hv:v.ok h)(e:q7C P ty t v h=some (x,h')) :
 ∃ y,fzP P (qD h.l) v.enc=some (y,qD h'.l)∧rt1 P ty y=t.pv x∧Keep h h'∧OkH P h'∧rt1 P ty (t.pv x)=t.pv x:=by
 unfold q7C at e
 cases ht:t.one with
 | true =>
   rw[ht] at e;simp only[cond_true] at e;split at e
   ·cases e
   ·rename_i hna;obtain⟨y,h1,h2,h3,h4,h5⟩:=qP9 ho hv e
    have hpv:rt1 P ty (t.pv x)=t.pv x:=by
     unfold Ty.pv;rw[ht];exact nU h3
    refine⟨.f y,?_,?_,h4,h5,hpv⟩
    ·cases v with
     | agg l=>exact absurd rfl (hna l)
     | opt b k o w=>cases b <;> (simp only[SV.enc,fvv,fzP,cond_true,cond_false] at h1 ⊢;rw[h1])
     | _=>simp only[SV.enc,fvv,fzP] at h1 ⊢;rw[h1]
    ·show rt0 P ty (.f y)=_;rw[h2];unfold Ty.pv;rw[ht];rfl
 | false =>
   rw[ht] at e;simp only[cond_false] at e;split at e
   ·rename_i l;split at e
    ·rename_i x1 zIY h1 hd;cases e;simp only[SV.ok] at hv;obtain⟨a1,a2,a3,ys,a4,a5⟩:=qBA ho hv hd
     have hpv:rt1 P ty (t.pv x)=t.pv x:=by
      unfold Ty.pv;rw[ht];show PV.agg (rtL (rtC P) (vS P 8 ty) ((t.cells x).map .f))=_;have:=(a5 []).2;rw[zOT] at this;rw[this];cases zIY <;> simp[rtL]
     refine⟨.agg (ys.map .f),?_,?_,a2,a3,hpv⟩
     ·have:=a4 [] (qD h'.l) (by simp[qB,sN]);simp only[SV.enc,fzP,this,zOT]
     ·show PV.agg (rtL (rtC P) (vS P 8 ty) (ys.map .f))=_;have:=(a5 []).1;rw[zOT] at this;rw[this];unfold Ty.pv;rw[ht];cases zIY <;> simp[rtL]
    ·cases e
   ·cases e
def vJ (P:Program):List TypeId->(ts:List Ty)->List SV->SH->Option (TyL ts×SH)
 | _,[],[],h=>some ((),h)
 | ty::_,[t],[v],h=>q7C P ty t v h
 | ty::tys,t::u::ts,v::vs,h=>match q7C P ty t v h with
   | some (x,h1)=>(match vJ P tys (u::ts) vs h1 with
     | some (y,h2)=>some ((x,y),h2)
     | none=>none)
   | none=>none
 | _,_,_,_=>none
theorem bU:∀ {tys:List TypeId} {ts:List Ty} {vs:List SV} {h:SH} {x:TyL ts} {h':SH},OkH P h->okL h vs->vJ P tys ts vs h=some (x,h') ->
 ∃ ys,fzA P (qB vs) (qD h.l)=some (ys,qD h'.l)∧rtL (rt1 P) tys ys=pvL ts x∧Keep h h'∧OkH P h'
 | tys,[],[],h,x,h',ho,hv,e=>by
   unfold vJ at e;cases e;refine⟨[],rfl,?_,.refl _,ho⟩;cases tys <;> rfl
 | ty::tys,[t],[v],h,x,h',ho,hv,e=>by
   unfold vJ at e;simp only[okL] at hv;obtain⟨y,h1,h2,h3,h4,_⟩:=qCL ho hv.1 e;refine⟨[y],?_,?_,h3,h4⟩
   ·simp only[qB,fzA,h1]
   ·show rt1 P ty y::rtL (rt1 P) tys []=[t.pv x];rw[h2];cases tys <;> rfl
 | ty::tys,t::u::ts,v::vs,h,x,h',ho,hv,e=>by
   unfold vJ at e;simp only[okL] at hv;split at e
   ·rename_i x1 h1 hd;split at e
    ·rename_i y1 h2 hd2;cases e;obtain⟨y,a1,a2,a3,a4,_⟩:=qCL ho hv.1 hd;obtain⟨ys,b1,b2,b3,b4⟩:=bU a4 (qI a3 hv.2) hd2;refine⟨y::ys,?_,?_,a3.trans b3,b4⟩
     ·simp only[qB,fzA,a1,b1]
     ·show rt1 P ty y::rtL (rt1 P) tys ys=t.pv x1::pvL (u::ts) y1;rw[a2,b2]
    ·cases e
   ·cases e
 | [],[_],[_],_,_,_,_,_,e=>by unfold vJ at e;cases e
 | [],_::_::_,_::_,_,_,_,_,_,e=>by unfold vJ at e;cases e
 | tys,[],_::_,_,_,_,_,_,e=>by cases tys <;> (unfold vJ at e;cases e)
 | tys,_::ts,[],_,_,_,_,_,e=>by cases tys <;> cases ts <;> (unfold vJ at e;cases e)
 | tys,[_],_::_::_,_,_,_,_,_,e=>by cases tys <;> (unfold vJ at e;cases e)
def Ty.sv (t:Ty)(x:t.sem):SV:=cond t.one (.d t x) (.agg (t.svs x))
theorem nC (t:Ty)(x:t.sem):(t.sv x).enc=t.pv x:=by
 unfold Ty.sv Ty.pv;cases t.one <;> simp[SV.enc,gQ]
omit [Yl] in
theorem qKV (t:Ty)(x:t.sem):(t.sv x).ok h:=by
 unfold Ty.sv;cases t.one
 ·simp only[cond_false,SV.ok];exact qDN t x
 ·simp[SV.ok]
def svL:(ts:List Ty)->TyL ts->List SV
 | [],_=>[]
 | [t],x=>[t.sv x]
 | t::u::ts,x=>t.sv x.1::svL (u::ts) x.2
theorem qCM:∀ (ts:List Ty) (x:TyL ts),qB (svL ts x)=pvL ts x
 | [],_=>by simp[svL,pvL,qB]
 | [t],x=>by simp[svL,pvL,qB,nC]
 | t::u::ts,x=>by
   show qB (t.sv x.1::svL (u::ts) x.2)=t.pv x.1::pvL (u::ts) x.2;simp only[qB,nC,qCM (u::ts)]
omit [Yl] in
theorem qB3:∀ (ts:List Ty) (x:TyL ts),okL h (svL ts x)
 | [],_=>by simp[svL,okL]
 | [t],x=>by simp[svL,okL,qKV]
 | t::u::ts,x=>by
   show okL h (t.sv x.1::svL (u::ts) x.2);simp only[okL];exact⟨qKV t x.1,qB3 (u::ts) x.2⟩
def qI3 (ts:List Ty)(x:TyL ts):SV:=match svL ts x with
 | [v]=>v
 | vs=>.tup vs
theorem qIT (ts:List Ty)(x:TyL ts):(qI3 ts x).enc=kY ts x:=by
 unfold qI3 kY;rw[<-qCM]
 match svL ts x with
 | []=>simp[qB,qDC,SV.enc]
 | [v]=>simp[qB,qDC]
 | a::b::l=>simp[qB,qDC,SV.enc]
omit [Yl] in
theorem qPA (ts:List Ty)(x:TyL ts):(qI3 ts x).ok h:=by
 unfold qI3;have:=qB3 (h:=h) ts x;split
 ·rename_i v hv;rw[hv] at this;simp only[okL] at this;exact this.1
 ·simp only[SV.ok];exact this
def qRC (tab:uQ)(T:yY):Prop:=∀ g ent,slT g T=some ent->∀ x,tab g (pvL ent.as x)=(ent.F x).map (kY ent.rs)
def okc:FV->Bool
 | .v (.slice _ _ _)=>false
 | .v _=>true
 | .l _ _ _=>false
def _root_.Go.Sv.Ty.pln:Ty->Bool
 | .int _ | .bool | .str | .unit | .nif | .fnv _=>true
 | .pair a b=>Go.Sv.Ty.pln a&&Go.Sv.Ty.pln b
 | _=>false
omit [Yl] in
theorem oL:∀ (t:Ty) (x:t.sem),(t.cells x).all okc=t.pln
 | .int _,_=>rfl
 | .bool,_=>rfl
 | .str,_=>rfl
 | .unit,_=>rfl
 | .nif,_=>rfl
 | .fnv _,_=>rfl
 | .raw,_=>rfl
 | .list _ _,_=>rfl
 | .ol _ _,xs=>by cases xs <;> rfl
 | .pair a b,x=>by
   show (a.cells x.1++b.cells x.2).all okc=(a.pln&&b.pln);rw[zQO,oL a,oL b]
omit [Yl] in
theorem qXN:∀ (cs:List FV),((qKD (cs.map .f)).isSome&&(cs.map PV.f).all q57)=cs.all okc
 | []=>rfl
 | c::cs=>by
   rw[zOD,<-qXN cs,zNH,zOD]
   cases c with
   | l el n xs=>rfl
   | v x =>
     have e2:q57 (.f (.v x))=okc (.v x):=by cases x <;> rfl
     rw[e2,show qKD (.f (.v x)::cs.map .f)=(match qKD (cs.map .f) with
      | some vs=>some (x::vs)
      | none=>none) from rfl]
     cases qKD (cs.map PV.f) with
     | none=>simp only[zRH,Bool.false_and,Bool.and_false]
     | some vs=>simp only[zQP,zPX]
omit [Yl] in
theorem qFA (t:Ty)(x:t.sem):j4 (t.pv x)=t.pln∧((pl (t.pv x)).isSome&&qWQ (t.pv x))=t.pln:=by
 unfold Ty.pv
 cases ht:t.one with
 | true =>
   simp only[cond_true];have:=oL t x;rw[Ty.cells_one ht] at this;rw[<-this,zOD,List.all_nil,zO9]
   cases hv:t.fv x with
   | l el n xs=>exact⟨rfl,rfl⟩
   | v y=>cases y <;> exact⟨rfl,rfl⟩
 | false =>
   simp only[cond_false];have:=qXN (t.cells x);rw[oL] at this;refine⟨this,?_⟩;rw[<-this]
   show ((match qKD ((t.cells x).map .f) with
    | some vs=>some (Value.agg vs.toArray)
    | none=>none).isSome&&((t.cells x).map PV.f).all q57)=_
   cases qKD ((t.cells x).map .f) <;> rfl
def q9D (ts:List Ty):Bool:=ts.all Ty.pln
omit [Yl] in
theorem qJD:∀ (ts:List Ty) (x:TyL ts),((plL (pvL ts x)).isSome&&(pvL ts x).all qWQ)=q9D ts
 | [],_=>rfl
 | [t],x=>by
   show ((match pl (t.pv x) with
    | some v=>(match plL [] with
      | some vs=>some (v::vs)
      | none=>none)
    | none=>none).isSome&&((t.pv x)::[]).all qWQ)=(t.pln&&true)
   rw[<- (qFA t x).2,zOD];cases pl (t.pv x) <;> simp[plL]
 | t::u::ts,x=>by
   show ((match pl (t.pv x.1) with
    | some v=>(match plL (pvL (u::ts) x.2) with
      | some vs=>some (v::vs)
      | none=>none)
    | none=>none).isSome&&((t.pv x.1)::pvL (u::ts) x.2).all qWQ)=(t.pln&&q9D (u::ts))
   rw[<- (qFA t x.1).2,<-qJD (u::ts) x.2,zOD]
   cases pl (t.pv x.1) with
   | none=>simp
   | some v=>cases plL (pvL (u::ts) x.2) with
     | none=>simp
     | some vs=>simp
omit [Yl] in
theorem qI9 (ts:List Ty)(x:TyL ts):j4 (kY ts x)=q9D ts:=by
 unfold kY
 match ts,x with
 | [],x=>rfl
 | [t],x =>
   show j4 (t.pv x)=(t.pln&&true);rw[(qFA t x).1,zO9]
 | t::u::ts,x =>
   have:=qJD (t::u::ts) x;cases ts <;> exact this
def qSN (P:Program)(T:yY)(d:Bool)(g:FuncId)(as:List SV)(h:SH)(K:SV->SH->zE9 R):zE9 R:=match slT g T,P.funcs[g]? with
 | some ent,some fn=>(match vJ P fn.params.toList ent.as as h with
   | some (x,h1)=>.bind (ent.F x) fun y=>cond d (cond (q9D ent.rs||(qB as).all qHU) (K (qI3 ent.rs y) h) .fail) (K (qI3 ent.rs y) (cond (q9D ent.rs) h h1))
   | none=>.fail)
 | _,_=>.fail
theorem q1R {T:yY}(ht:qRC tab T){K:SV->SH->zE9 R}(ho:OkH P h)(ha:okL h as)(e:(qSN P T false g as h K).run=some r) :
 ∃ v h',fU P tab g (qB as) (qD h.l)=.ok v.enc (qD h'.l)∧Post P h h' v∧(K v h').run=some r:=by
 unfold qSN at e;split at e
 ·rename_i ent fn hent hfn;split at e
  ·rename_i x h1 hx;obtain⟨y,hy,e1⟩:=run_bind e;obtain⟨ys,a1,a2,a3,a4⟩:=bU ho ha hx;have e2:(K (qI3 ent.rs y) (cond (j4 (kY ent.rs y)) h h1)).run=some r:=by rw[qI9];exact e1
   refine⟨_,_,?_,⟨?_,?_,qPA _ _⟩,e2⟩
   ·unfold fU;rw[a1];simp only;rw[show rtA P g ys=pvL ent.as x by unfold rtA;rw[hfn];exact a2,ht g ent hent x,hy];simp only[zNE,qIT];cases j4 (kY ent.rs y) <;> rfl
   ·cases j4 (kY ent.rs y)
    ·exact a3
    ·exact .refl _
   ·cases j4 (kY ent.rs y)
    ·exact a4
    ·exact ho
  ·cases e
 ·cases e
theorem qT6 {T:yY}(ht:qRC tab T){K:SV->SH->zE9 R}(ho:OkH P h)(ha:okL h as)(e:(qSN P T true g as h K).run=some r) :
 ∃ v h',pW P tab g (qB as) (qD h.l)=.ok v.enc (qD h'.l)∧Post P h h' v∧(K v h').run=some r:=by
 unfold qSN at e;split at e
 ·rename_i ent fn hent hfn;split at e
  ·rename_i x h1 hx;obtain⟨y,hy,e1⟩:=run_bind e;obtain⟨ys,a1,a2,a3,a4⟩:=bU ho ha hx;obtain⟨c,e2⟩:=qF (show (cond (j4 (kY ent.rs y)||(qB as).all qHU) (K (qI3 ent.rs y) h) .fail:zE9 R).run=some r by rw[qI9];exact e1);refine⟨_,_,?_,⟨.refl _,ho,qPA _ _⟩,e2⟩;unfold pW;rw[a1];simp only;rw[show rtA P g ys=pvL ent.as x by unfold rtA;rw[hfn];exact a2,ht g ent hent x,hy];simp only[zNE,qIT,c,cond_true]
  ·cases e
 ·cases e
def rD (fv:SV)(args:List SV):Option (FuncId×List SV):=match fv with
 | .c (.func (.func g) a c)=>cond (a.toList.isEmpty&&c.toList.isEmpty) (some (g,args)) none
 | .fn g first cap=>some (g,first++(args++cap))
 | .d (.fnv g) _=>some (g,args)
 | _=>none
theorem dF {fv:SV}{args:List SV}(hf:fv.ok h)(ha:okL h args)(e:rD fv args=some (g,as)):target fv.enc (qB args)=some (g,qB as)∧okL h as:=by
 unfold rD at e;split at e
 ·rename_i g' a c
  cases hc:(a.toList.isEmpty&&c.toList.isEmpty) with
  | false=>rw[hc] at e;cases e
  | true =>
    rw[hc] at e;cases e;exact⟨by simp only[target,SV.enc,fvv,hc,cond_true],ha⟩
 ·rename_i g' first cap
  cases e;simp only[SV.ok] at hf;exact⟨by simp only[target,SV.enc,mX],aT hf.1 (aT ha hf.2)⟩
 ·rename_i g' x;cases e;exact⟨rfl,ha⟩
 ·cases e
def q4M (P:Program)(T:yY)(d:Bool)(f:SV)(args:List SV)(h:SH)(K:SV->SH->zE9 R):zE9 R:=match rD f args with
 | some (g,as)=>qSN P T d g as h K
 | none=>.fail
def q14 (P:Program)(T:yY)(d:Bool)(k:Nat)(o:Oper)(env:List SV)(h:SH)(K:SV->SH->zE9 R):zE9 R:=match o.op with
 | .call ⟨.value f,args,_⟩=>q4M P T d (xS env f) (dM env args) h K
 | _=>sop P o env k h K
def qYZ (P:Program)(G:Nat->Bool)(CI:CIT):Prop:=∀ {R:Type} (nm:Nm) (f:FuncId) (as:List SV) (h:SH) (K:SV->SH->zE9 R) (r:R),OkH P h->okL h as->(CI R nm f as h K).run=some r ->
 qDE P G nm f (qB as) (qD h.l) fun v p=>∃ v' h',v=v'.enc∧p=qD h'.l∧Post P h h' v'∧(K v' h').run=some r
def qQS (p:Nat->Bool)(env:List SV):List (Nat×SO)->Bool
 | []=>true
 | (k,_)::l=>(!p k||zZ k (qB env))&&qQS p env l
theorem qH7 {p:Nat->Bool}{env:List SV}:∀ {l:List (Nat×SO)},qQS p env l=true->clean p (qB env) (qD l)=true
 | [],_=>rfl
 | (k,o)::l,h=>by
   have h:((!p k||zZ k (qB env))&&qQS p env l)=true:=h;show ((!p k||zZ k (qB env))&&clean p (qB env) (qD l))=true;rw[zMY] at h ⊢;exact⟨h.1,qH7 h.2⟩
section
variable {Γ:Type}
def q4E (p:Nat->Bool):List (Nat×SO)->Bool
 | []=>true
 | (_,.cells _ _ l)::r=>rX p (qB l)&&q4E p r
 | (_,.list _ _ _ _ _ _)::r=>q4E p r
 | (_,.spc _ (.mit _ j _ _ _))::r=>!(p j)&&q4E p r
 | (_,.spc _ (.map _))::r=>q4E p r
 | (_,.spc _ (.iter _ _))::r=>q4E p r
 | (_,.spc _ (.arr _ _ _))::r=>q4E p r
theorem qTI (p:Nat->Bool):∀ (cs:List FV),rX p (cs.map .f)=true
 | []=>by simp[rX]
 | c::cs=>by simp[rX,noP,qTI p cs]
theorem qUC (p:Nat->Bool):∀ (l:List Nat),rX p (l.map iv)=true
 | []=>by simp[rX]
 | c::cs=>by
   show (true&&rX p (cs.map iv))=true;rw[qUC p cs];rfl
theorem qZ7 (p:Nat->Bool)(j si la:Nat)(seen:List Nat):rX p (qC8 (.mp j) si la seen)=!(p j):=by
 show (!(p j)&&(true&&(true&&(rX p (seen.map iv)&&true))))=_;rw[qUC];simp
theorem q2S (p:Nat->Bool)(c:Nat):∀ (es:List MapEntry),rX p (wQ c es)=true:=fun es=>by
 have:∀ es:List MapEntry,rX p (qDK es)=true:=fun es=>by
  induction es with
  | nil=>rfl
  | cons e es ih=>exact ih
 exact this es
theorem eU {p:Nat->Bool}:∀ {l:List (Nat×SO)},qZV p (qD l)=q4E p l
 | []=>rfl
 | (j,.cells el w l)::r=>by
   show (rX p (qB l)&&qZV p (qD r))=_;rw[eU];rfl
 | (j,.list el gr g w t xs)::r=>by
   show (rX p ((xs.flatMap t.cells).map .f)&&qZV p (qD r))=_;rw[qTI,eU];rfl
 | (j,.spc w (.mit t i si la seen))::r=>by
   show (rX p (qC8 (.mp i) si la seen)&&qZV p (qD r))=_;rw[qZ7,eU];rfl
 | (j,.spc w (.map es))::r=>by
   show (rX p (wQ _ _)&&qZV p (qD r))=_;rw[q2S,eU];rfl
 | (j,.spc w (.iter s pos))::r=>by
   show (rX p (aD s pos)&&qZV p (qD r))=_;rw[show rX p (aD s pos)=true from rfl,eU];rfl
 | (j,.spc w (.arr el ik xs))::r=>by
   show (rX p (xs.map fun x=>fvv (.int ik x))&&qZV p (qD r))=_;rw[show (xs.map fun x=>fvv (.int ik x))=(xs.map fun x=>FV.v (.int ik x)).map .f by rw[zO6];rfl,qTI,eU];rfl
def zBF (nm:Nm)(j:FuncId)(env:List SV)(h:SH):Bool:=rX (inB (nm.b+wid nm.b*1000*(j+1))) (qB env)&&(((qD h.l).all fun x=>!inB (nm.b+wid nm.b*1000*(j+1)) x.1||nm.p x.1)&&q4E (zD5 (nm.b+wid nm.b*1000*(j+1))) h.l)
theorem qLY {j:FuncId}{h:SH}:zBF nm j env h=q4H nm j (qB env) (qD h.l):=by
 unfold zBF q4H;rw[eU]
def q75 (nm:Nm)(g:FuncId)(env:List SV)(h:SH)(k:FuncId->zE9 R):zE9 R :=
 cond (zBF nm g env h) (k g) (cond (zBF nm (g+333) env h) (k (g+333)) (cond (zBF nm (g+666) env h) (k (g+666)) (k g)))
theorem qZO {h:SH}{k:FuncId->zE9 R}:q75 nm g env h k=k (qLD nm g (qB env) (qD h.l)):=by
 unfold q75 qLD;rw[qLY,qLY,qLY];cases q4H nm g (qB env) (qD h.l)
 ·cases q4H nm (g+333) (qB env) (qD h.l)
  ·cases q4H nm (g+666) (qB env) (qD h.l) <;> rfl
  ·rfl
 ·rfl
def q27 (P:Program)(T:yY)(CI:CIT)(Y:YI Γ)(nm:Nm)(f:SV)(args:List SV)(g:Γ)(env:List SV)(h:SH)(K:Γ->SV->SH->zE9 R):zE9 R:=match f with
 | .yv=>(match vJ P Y.yt Y.ys args h with
   | some (y,h1)=>.bind (Y.stp g y) fun p=>K p.1 (.d .bool p.2) h1
   | none=>.fail)
 | f=>(match rD f args with
   | some (t,as)=>cond (slT t T).isSome (qSN P T false t as h (K g)) (q75 nm t env h fun j=>CI R (qUM nm j) t as h fun v h2=>cond (qQS (qUM nm j).p env h2.l) (K g v h2) .fail)
   | none=>.fail)
def q3T (P:Program)(T:yY)(CI:CIT)(Y:YI Γ)(nm:Nm)(o:Oper)(g:Γ)(env:List SV)(h:SH)(K:Γ->SV->SH->zE9 R):zE9 R:=match o.op with
 | .call ⟨.value f,args,_⟩=>q27 P T CI Y nm (xS env f) (dM env args) g env h K
 | _=>zD6 P o env (qH nm o.dst) h (K g)
def YOk (P:Program)(G:Nat->Bool)(w:Wld Γ)(Y:YI Γ):Prop:=∀ g y g' b,Y.stp g y=some (g',b)->qI2 P G w Yl.l g (pvL Y.ys y) g' b
end
theorem qHT {T:yY}(ht:qRC tab T){o:Oper}{K:SV->SH->zE9 R}(ho:OkH P h)(he:okL h env)(e:(q14 P T true k o env h K).run=some r) :
 ∃ v h',zL P tab k o (qB env) (qD h.l)=.ok v.enc (qD h'.l)∧Post P h h' v∧(K v h').run=some r:=by
 unfold q14 at e;unfold zL;split at e
 ·rename_i f args ts hop;unfold q4M at e;split at e
  ·rename_i g as hst;obtain⟨h1,h2⟩:=dF (mH he f) (fA he args) hst;obtain⟨v,h',a1,a2,a3⟩:=qT6 ht ho h2 e;refine⟨v,h',?_,a2,a3⟩;simp only[hop,qN,gG,h1];exact a1
  ·cases e
 ·rename_i hne;obtain⟨v,h',a1,a2,a3⟩:=q3N ho he e;refine⟨v,h',?_,a2,a3⟩;split
  ·rename_i f args ts hop;exact absurd hop (hne f args ts)
  ·rw[a1];rfl
end
end Go.Sv
namespace Go.Sv
open Go.Idl
variable {d:Option Tmp}{el:TypeId}{env:List SV}{h:SH}{o:Oper}{t:Ty}{v x:SV}
noncomputable section
variable [Gc]
variable [Frs]
variable [Yl]
variable {P:Program}{R:Type}{r:R}{tab:uQ}{G:Nat->Bool}{nm:Nm}
omit [Yl] in
theorem zFM {Q Q':List PV->PHp->Prop}(hq:∀ e p,Q e p->Q' e p):∀ {t:PT},t.holds P G Q->t.holds P G Q'
 | .fail,h=>h.elim
 | .ret e p,h=>hq e p h
 | .chk c t,h=>⟨h.1,zFM hq h.2⟩
 | .call nm g args ph k,h=>by
   obtain⟨R,h1,h2⟩:=h;exact⟨R,h1,fun v p hr=>zFM hq (h2 v p hr)⟩
 | .rnd _ _ _ _,h=>h.elim
omit [Yl] in
theorem qXV (k:Nat):∀ (cs:List FV),zZ k (cs.map .f)=true
 | []=>by simp[zZ]
 | c::cs=>by simp[zZ,noK,qXV k cs]
def qD8 (k:Nat):List (Nat×SO)->Bool
 | []=>true
 | (_,.cells _ _ l)::r=>zZ k (qB l)&&qD8 k r
 | (_,.list _ _ _ _ _ _)::r=>qD8 k r
 | (_,.spc _ (.mit _ j _ _ _))::r=>!(k==j)&&qD8 k r
 | (_,.spc _ (.map _))::r=>qD8 k r
 | (_,.spc _ (.iter _ _))::r=>qD8 k r
 | (_,.spc _ (.arr _ _ _))::r=>qD8 k r
theorem qUH (k:Nat):∀ (l:List Nat),zZ k (l.map iv)=true
 | []=>by simp[zZ]
 | c::cs=>by
   show (true&&zZ k (cs.map iv))=true;rw[qUH k cs];rfl
theorem q1S (k j si la:Nat)(seen:List Nat):zZ k (qC8 (.mp j) si la seen)=!(k==j):=by
 show (!(k==j)&&(true&&(true&&(zZ k (seen.map iv)&&true))))=_;rw[qUH];simp
theorem jJ {k:Nat}:∀ {l:List (Nat×SO)},qD8 k l=true->gZ k (qD l)=true
 | [],_=>rfl
 | (j,.cells el w l)::r,h=>by
   simp only[qD8,zMY] at h;show (zZ k (qB l)&&gZ k (qD r))=true;rw[h.1,jJ h.2];rfl
 | (j,.list el gr g w t xs)::r,h=>by
   simp only[qD8] at h;show (zZ k ((xs.flatMap t.cells).map .f)&&gZ k (qD r))=true;rw[qXV,jJ h];rfl
 | (j,.spc w (.mit t i si la seen))::r,h=>by
   simp only[qD8,zMY] at h;show (zZ k (qC8 (.mp i) si la seen)&&gZ k (qD r))=true;rw[q1S,h.1,jJ h.2];rfl
 | (j,.spc w (.map es))::r,h=>by
   simp only[qD8] at h;show (zZ k (wQ _ _)&&gZ k (qD r))=true;rw[qBC,jJ h];rfl
 | (j,.spc w (.iter s pos))::r,h=>by
   simp only[qD8] at h;show (zZ k (aD s pos)&&gZ k (qD r))=true;rw[show zZ k (aD s pos)=true from rfl,jJ h];rfl
 | (j,.spc w (.arr el ik xs))::r,h=>by
   simp only[qD8] at h;show (zZ k (xs.map fun x=>fvv (.int ik x))&&gZ k (qD r))=true;rw[show (xs.map fun x=>fvv (.int ik x))=(xs.map fun x=>FV.v (.int ik x)).map .f by rw[zO6];rfl,qXV,jJ h];rfl
def dO (env:List SV)(d:Option Tmp)(v:SV):List SV:=match d with
 | some t=>yQ env t v
 | none=>env
theorem xW (env:List SV)(t:Nat)(v:SV):qB (yQ env t v)=yQ (qB env) t v.enc:=by
 rw[qV,qV,zD,zD,List.map_set]
theorem kW (env:List SV)(d:Option Tmp)(v:SV):qB (dO env d v)=yL (qB env) d v.enc:=by
 cases d with
 | none=>rfl
 | some t=>exact xW env t v
omit [Yl] in
theorem y9 {t:Nat}(he:okL h env)(hv:v.ok h):okL h (yQ env t v):=by
 rw[qV]
 exact zK.2 fun x hx=>by
  rcases List.mem_or_eq_of_mem_set hx with q | q
  ·exact zK.1 he x q
  ·rw[q];exact hv
omit [Yl] in
theorem wB (he:okL h env)(hv:v.ok h):okL h (dO env d v):=by
 cases d with
 | none=>exact he
 | some t=>exact y9 he hv
omit [Yl] in
theorem jH (env:List SV)(t:Nat)(v:SV):(yQ env t v).length=env.length:=by rw[qV,zOB]
omit [Yl] in
theorem q0P (env:List SV)(d:Option Tmp)(v:SV):(dO env d v).length=env.length:=by
 cases d with
 | none=>rfl
 | some t=>exact jH env t v
theorem qNX {t:Nat}{w:SV}(h1:zJ env t=some v)(h2:w.enc=v.enc):qB (yQ env t w)=qB env:=by
 rw[xW,qV];rw[qG] at h1;apply zOI;intro i;rw[zNU];by_cases e:t=i
 ·subst e;rw[if_pos rfl,zD,zNC,h1,zNA,if_pos (zM6.1 h1).1,h2];rfl
 ·rw[if_neg e]
def zT (b w:Bool):Bool:=cond w b (!b)
omit [Yl] in
theorem qQA (b w:Bool):zT b w=(b==w):=by cases b <;> cases w <;> rfl
def qCK (ds:List (Option Tmp))(o:Oper)(env:List SV)(Y N:List SV->zE9 R):zE9 R:=match o.guard with
 | none=>Y env
 | some (j,w)=>(match qQ9 ds j with
   | none=>N env
   | some t=>(match zJ env t with
     | none=>.fail
     | some v=>(match asB v with
       | some b=>.ite (zT b w) (Y (yQ env t (.c (.bool w)))) (N (yQ env t (.c (.bool (!w)))))
       | none=>(match v with
         | .tup []=>N env
         | _=>.fail))))
theorem rP {ds:List (Option Tmp)}{Y N:List SV->zE9 R}(he:okL h env)(e:(qCK ds o env Y N).run=some r) :
 ∃ env',qB env'=qB env∧okL h env'∧env'.length=env.length∧((j5 ds o (qB env)=some true∧(Y env').run=some r)∨(j5 ds o (qB env)=some false∧(N env').run=some r)):=by
 unfold qCK at e;unfold j5;split at e
 ·rename_i hg;exact⟨env,rfl,he,rfl,.inl ⟨by rw[hg],e⟩⟩
 ·rename_i j w hg;rw[hg];simp only;split at e
  ·rename_i hd;exact⟨env,rfl,he,rfl,.inr ⟨by rw[hd];rfl,e⟩⟩
  ·rename_i t hd;rw[hd];simp only[qMJ,qU];split at e
   ·cases e
   ·rename_i v hv;rw[hv];split at e
    ·rename_i b hb;have hbe:=rG hb
     rcases run_ite e with ⟨z,e1⟩ | ⟨z,e1⟩
     ·rw[qQA] at z;have:b=w:=by simpa using z
      subst this;refine⟨_,qNX hv (by rw[hbe];simp[SV.enc]),y9 he (by simp[SV.ok]),jH _ _ _,.inl ⟨?_,e1⟩⟩;simp only[zNE,hbe,qBS,z]
     ·rw[qQA] at z
      have:b=!w:=by cases b <;> cases w <;> first | rfl | cases z
      refine⟨_,qNX hv (by rw[hbe,this];simp[SV.enc]),y9 he (by simp[SV.ok]),jH _ _ _,.inr ⟨?_,e1⟩⟩;simp only[zNE,hbe,qBS,z]
    ·split at e
     ·exact⟨env,rfl,he,rfl,.inr ⟨by simp only[zNE,SV.enc,qB];exact qRD,e⟩⟩
     ·cases e
def qEL (nm:Nm)(k:Nat)(env:List SV)(h:SH):Bool:=inP nm k&&(zZ k (qB env)&&qD8 k h.l)
section
variable {Γ:Type}
def qY1 (P:Program)(T:yY)(CI:CIT)(Y:YI Γ)(nm:Nm)(ds:List (Option Tmp)):List Oper->Γ->List SV->SH->(Γ->List SV->SH->zE9 R)->zE9 R
 | [],g,env,h,K=>K g env h
 | o::l,g,env,h,K=>qCK ds o env
    (fun env=>cond (cond (needs o.op) (qEL nm (qH nm o.dst) env h) true) (q3T P T CI Y nm o g env h fun g v h'=>qY1 P T CI Y nm ds l g (dO env o.dst v) h' K) .fail)
    (fun env=>qY1 P T CI Y nm ds l g (dO env o.dst (.tup [])) h K)
end
def Ends (P:Program)(w:List (Option Tmp))(env:List SV)(h:SH)(env':List SV)(h':SH):Prop :=
 okL h' env'∧OkH P h'∧Keep h h'∧(∀ i,some i ∉ w->zJ (qB env') i=zJ (qB env) i)∧env'.length=env.length
theorem q62 {i:Nat}(h:d≠some i):zJ (qB (dO env d v)) i=zJ (qB env) i:=by
 cases d with
 | none=>rfl
 | some t =>
   show zJ (qB (yQ env t v)) i=_;rw[xW,qV,qG,qG,zNU,if_neg (fun e=>h (by rw[e]))]
theorem Ends.step {o:Oper}{w:List (Option Tmp)}{env zFE:List SV}{h h1:SH}{v:SV}{env':List SV}{h':SH}(he:qB env=qB zFE)(hl:env.length=zFE.length)(hk:Keep h h1)(x:Ends P w (dO env o.dst v) h1 env' h'):Ends P (o.dst::w) zFE h env' h' :=
 ⟨x.1,x.2.1,hk.trans x.2.2.1,fun i hi=>by
   rw[zNF,not_or] at hi
   rw[x.2.2.2.1 i hi.2,q62 (fun e=>hi.1 e.symm),he],by rw[x.2.2.2.2,q0P,hl]⟩
omit [Yl] in
theorem kI {Γ:Type}{w:Wld Γ}{Q Q':Γ->List PV->PHp->Prop}(hq:∀ g e p,Q g e p->Q' g e p):∀ {t:PT} {g:Γ},t.zF5 P G w Q g->t.zF5 P G w Q' g
 | .fail,_,h=>h.elim
 | .ret e p,g,h=>hq g e p h
 | .chk c t,g,h=>⟨h.1,kI hq h.2⟩
 | .call nm f args ph k,g,h=>by
   obtain⟨R,h1,h2⟩:=h;exact⟨R,h1,fun v p hr=>kI hq (h2 v p hr)⟩
 | .rnd l args ph k,g,h=>by
   obtain⟨zGF,tys,ph1,g',b,h1,h2,h3⟩:=h;exact⟨zGF,tys,ph1,g',b,h1,h2,kI hq h3⟩
def qZ4 (T:yY)(f:FuncId):Bool:=!(slT f T).isSome
theorem qGN {Γ:Type}{w:Wld Γ}{T:yY}{CI:CIT}{Y:YI Γ}(ht:qRC tab T)(hci:qYZ P G CI)(hy:YOk P G w Y){ds:List (Option Tmp)}:∀ {l:List Oper} {g:Γ} {env:List SV} {h:SH} {K:Γ->List SV->SH->zE9 R},OkH P h->okL h env->(qY1 P T CI Y nm ds l g env h K).run=some r ->
 (pops P tab (qZ4 T) nm ds l (qB env) (qD h.l)).zF5 P G w (fun g e p=>∃ env' h',e=qB env'∧p=qD h'.l∧Ends P (l.map (·.dst)) env h env' h'∧(K g env' h').run=some r) g
 | [],g,env,h,K,ho,he,e=>⟨env,h,rfl,rfl,⟨he,ho,.refl _,fun _ _=>rfl,rfl⟩,e⟩
 | o::l,g,env,h,K,ho,he,e=>by
   unfold qY1 at e;obtain⟨zFG,q1,q2,q3,q4⟩:=rP he e;rw[qYL]
   rcases q4 with ⟨hw,e1⟩ | ⟨hw,e1⟩
   ·rw[hw,qY7];obtain⟨c,e2⟩:=qF e1
    have next:∀ {g':Γ} {v:SV} {h':SH},Post P h h' v->(qY1 P T CI Y nm ds l g' (dO zFG o.dst v) h' K).run=some r->(pops P tab (qZ4 T) nm ds l (yL (qB env) o.dst v.enc) (qD h'.l)).zF5 P G w (fun g e p=>∃ env' h',e=qB env'∧p=qD h'.l∧Ends P ((o::l).map (·.dst)) env h env' h'∧(K g env' h').run=some r) g':=fun {g' v h'} a2 a3=>by
     have ih:=qGN ht hci hy a2.2.1 (wB (d:=o.dst) (qI a2.1 q2) a2.2.2) a3;rw[kW,q1] at ih;exact kI (fun g e p ⟨env',h',b1,b2,b3,b4⟩=>⟨env',h',b1,b2,Ends.step q1 q3 a2.1 b3,b4⟩) ih
    have chk:∀ {g':Γ} {v:SV} {h':SH},Post P h h' v->(qY1 P T CI Y nm ds l g' (dO zFG o.dst v) h' K).run=some r->(q8I (needs o.op) (qH nm o.dst) nm (qB env) (qD h.l) (pops P tab (qZ4 T) nm ds l (yL (qB env) o.dst v.enc) (qD h'.l))).zF5 P G w (fun g e p=>∃ env' h',e=qB env'∧p=qD h'.l∧Ends P ((o::l).map (·.dst)) env h env' h'∧(K g env' h').run=some r) g':=fun {g' v h'} a2 a3=>by
     unfold q8I
     cases hn:needs o.op with
     | false=>exact next a2 a3
     | true =>
       rw[hn] at c;simp only[cond_true] at c ⊢;refine⟨?_,next a2 a3⟩;unfold qEL at c;rw[q1] at c;simp only[zMY] at c;unfold fresh;rw[c.1,c.2.1,jJ c.2.2];rfl
    unfold q3T at e2;split at e2
    ·rename_i f args ts hop
     have hpe:bF P tab (qZ4 T) (qH nm o.dst) o (qB env) (qD h.l)=oV P tab (qZ4 T) (xS zFG f).enc (qB (dM zFG args)) (qD h.l):=by
      unfold bF;rw[<-q1];simp only[hop,qN,gG]
     rw[hpe];have hfv:=mH q2 f;have has:=fA q2 args
     revert e2 hfv
     generalize xS zFG f=fv;intro e2 hfv;unfold q27 at e2;split at e2
     ·split at e2
      ·rename_i y h1 hd;obtain⟨p,hp,e3⟩:=run_bind e2;obtain⟨g',b⟩:=p;obtain⟨ys,a1,a2,a3,a4⟩:=bU ho has hd
       have:oV P tab (qZ4 T) (SV.enc .yv) (qB (dM zFG args)) (qD h.l)=.rnd Yl.l (qB (dM zFG args)) (qD h.l):=by
        simp only[SV.enc,oV]
       rw[this,qX9];refine⟨ys,Y.yt,qD h1.l,g',b,a1,?_,?_⟩
       ·rw[a2];exact hy _ _ _ _ hp
       ·have:=next (v:=.d .bool b) ⟨a3,a4,by simp[SV.ok]⟩ e3;simpa [SV.enc,Ty.fv,fvv] using this
      ·cases e2
     ·split at e2
      ·rename_i t as hst;obtain⟨h1,h2⟩:=dF hfv has hst;rw[qKT h1];unfold dV qZ4
       cases hsl:(slT t T).isSome with
       | true =>
         rw[hsl] at e2;simp only[cond_true] at e2;obtain⟨v,h',a1,a2,a3⟩:=q1R ht ho h2 e2;simp only[zQY,cond_false];rw[a1,qQJ];exact chk a2 a3
       | false =>
         rw[hsl] at e2;simp only[cond_false] at e2;simp only[zRF,cond_true];rw[qQ8];rw[qZO,q1] at e2;refine⟨_,hci _ _ _ _ _ _ ho h2 e2,?_⟩;rintro v p ⟨v',h',rfl,rfl,a2,a3⟩;obtain⟨c2,a4⟩:=qF a3;have:=qH7 c2;rw[q1] at this;exact⟨this,next a2 a4⟩
      ·cases e2
    ·rename_i hne;obtain⟨v,h',a1,a2,a3⟩:=q59 ho q2 e2;rw[q1] at a1
     have hpe:bF P tab (qZ4 T) (qH nm o.dst) o (qB env) (qD h.l)=.ok v.enc (qD h'.l):=by
      unfold bF;split
      ·rename_i f args ts hop;exact absurd hop (hne f args ts)
      ·rw[a1];rfl
     rw[hpe,qQJ];exact chk a2 a3
   ·rw[hw,qVB];have ih:=qGN ht hci hy ho (wB (d:=o.dst) (v:=.tup []) q2 (by simp[SV.ok,okL])) e1;rw[kW,q1] at ih;simp only[SV.enc,qB] at ih;exact kI (fun g e p ⟨env',h',b1,b2,b3,b4⟩=>⟨env',h',b1,b2,Ends.step q1 q3 (.refl _) b3,b4⟩) ih
def qVR (P:Program)(T:yY)(nm:Nm)(ds:List (Option Tmp))(b:DB)(zFE:List SV):Nat->List Oper->List SV->SH->List (Nat×List Nat)->List (Nat×List Nat)->List (Nat×Nat)->List (Nat×PV)->(List SV->SH->zE9 R)->zE9 R
 | i,[],env,h,E,F,N,V,K=>cond (mD b (qB zFE) E F N V) (K env h) .fail
 | i,o::l,env,h,E,F,N,V,K=>qCK ds o env
    (fun env=>cond (cond (needs o.op) (inP nm (qH nm o.dst)&&qD8 (qH nm o.dst) h.l) true) (q14 P T true (qH nm o.dst) o env h fun v h' =>
      qVR P T nm ds b zFE (i+1) l (dO env o.dst v) h' (cond (qY o) ((i,wlT nm o (qB env))::E) E) (cond (qY o) F ((i,dlT o (qB env))::F)) (cond (needs o.op) ((i,qH nm o.dst)::N) N) ((i,v.enc)::V) K) .fail)
    (fun env=>qVR P T nm ds b zFE (i+1) l (dO env o.dst (.tup [])) h E F N ((i,.tup [])::V) K)
theorem qFZ {T:yY}(ht:qRC tab T){ds:List (Option Tmp)}{b:DB}{zFE:List SV}:∀ {l:List Oper} {i:Nat} {env:List SV} {h:SH} {E F:List (Nat×List Nat)} {N:List (Nat×Nat)} {V:List (Nat×PV)} {K:List SV->SH->zE9 R},OkH P h->okL h env->(qVR P T nm ds b zFE i l env h E F N V K).run=some r ->
 (qK1 P tab nm ds b (qB zFE) i l (qB env) (qD h.l) E F N V).holds P G fun e p=>∃ env' h',e=qB env'∧p=qD h'.l∧Ends P (l.map (·.dst)) env h env' h'∧(K env' h').run=some r
 | [],i,env,h,E,F,N,V,K,ho,he,e=>by
   unfold qVR at e;obtain⟨c,e1⟩:=qF e;rw[qY9];exact⟨c,env,h,rfl,rfl,⟨he,ho,.refl _,fun _ _=>rfl,rfl⟩,e1⟩
 | o::l,i,env,h,E,F,N,V,K,ho,he,e=>by
   unfold qVR at e;obtain⟨zFG,q1,q2,q3,q4⟩:=rP he e;rw[qWS]
   rcases q4 with ⟨hw,e1⟩ | ⟨hw,e1⟩
   ·rw[hw,qYI];obtain⟨c,e2⟩:=qF e1;obtain⟨v,h',a1,a2,a3⟩:=qHT ht ho q2 e2;rw[q1] at a1;rw[a1,qU5];have ih:=qFZ ht a2.2.1 (wB (d:=o.dst) (qI a2.1 q2) a2.2.2) a3;rw[kW,q1] at ih;have ih2:=zFM (Q':=fun e p=>∃ env' h',e=qB env'∧p=qD h'.l∧Ends P ((o::l).map (·.dst)) env h env' h'∧(K env' h').run=some r) (fun e p ⟨env',h',b1,b2,b3,b4⟩=>⟨env',h',b1,b2,Ends.step q1 q3 a2.1 b3,b4⟩) ih;unfold qBL
    cases hn:needs o.op with
    | false=>rw[hn] at ih2;exact ih2
    | true =>
      rw[hn] at c ih2;simp only[cond_true] at c ⊢;refine⟨?_,ih2⟩;rw[zMY] at c;rw[c.1,jJ c.2];rfl
   ·rw[hw,qSE];have ih:=qFZ ht ho (wB (d:=o.dst) (v:=.tup []) q2 (by simp[SV.ok,okL])) e1;rw[kW,q1] at ih;simp only[SV.enc,qB] at ih;exact zFM (fun e p ⟨env',h',b1,b2,b3,b4⟩=>⟨env',h',b1,b2,Ends.step q1 q3 (.refl _) b3,b4⟩) ih
def qLA (R:List Nat)(l:List (Nat×SO)):List (Nat×SO):=R.filterMap fun k=>(slk k l).map fun o=>(k,o)
theorem qCJ {l:List (Nat×SO)}:∀ (R:List Nat),qD (qLA R l)=bK R (qD l)
 | []=>rfl
 | k::R=>by
   have ih:=qCJ (l:=l) R;unfold qLA bK at ih ⊢;rw[zRD,zRD,vC]
   cases hk:slk k l with
   | none=>simp only[zRA];exact ih
   | some o =>
     simp only[zNE];show (k,o.enc)::qD _=_;rw[ih]
def zDI (b:Array Nat)(h0:List (Nat×SO))(zFE:List PV)(E F:List (Nat×List Nat))(N:List (Nat×Nat))(V:List (Nat×PV))(O:List (Nat×List (Nat×SO))):Bool :=
 (E.all fun e=>(E++F).all fun f=>Nat.beq e.1 f.1||(qPJ b e.1 f.1||f.2.all fun l=>!e.2.contains l)) &&
   N.all fun n=>zZ n.2 zFE&&(qD8 n.2 h0&&((V.all fun v=>Nat.beq v.1 n.1||(vH b n.1 v.1||noK n.2 v.2))&&O.all fun c=>Nat.beq c.1 n.1||(vH b n.1 c.1||qD8 n.2 c.2)))
def q2Q (O:List (Nat×List (Nat×SO))):List (Nat×PHp):=O.map fun c=>(c.1,qD c.2)
theorem q8D {b:Array Nat}{h0:List (Nat×SO)}{zFE:List PV}{E F:List (Nat×List Nat)}{N:List (Nat×Nat)}{V:List (Nat×PV)}{O:List (Nat×List (Nat×SO))}(h:zDI b h0 zFE E F N V O=true):q8Y b (qD h0) zFE E F N V (q2Q O)=true:=by
 unfold zDI at h;unfold q8Y;rw[zMY] at h ⊢;refine⟨h.1,zM1.2 fun n hn=>?_⟩;have h2:=zM1.1 h.2 n hn;rw[zMY,zMY,zMY] at h2 ⊢;refine⟨h2.1,jJ h2.2.1,h2.2.2.1,zM1.2 fun c hc=>?_⟩;obtain⟨c0,hc0,rfl⟩:=zNO.1 hc;have h3:=zM1.1 h2.2.2.2 c0 hc0;rw[zN1,zN1] at h3 ⊢;rcases h3 with h | h | h
 ·exact .inl h
 ·exact .inr (.inl h)
 ·exact .inr (.inr (jJ h))
def q2R (l:List (Nat×SO)):PV->Bool
 | .own k _ _ _=>(match slk k l with
   | some (.list _ _ _ _ _ _)=>true
   | _=>false)
 | x=>qHU x
theorem qOD {l:List (Nat×SO)}{x:PV}(h:q2R l x=true):qIO (qD l) x=true:=by
 cases x with
 | own k t o n =>
   unfold q2R at h;unfold qIO;simp only at h ⊢;rw[vC];split at h
   ·rename_i el gr g w u xs hk;rw[hk];simp only[zNE];show (((List.flatMap u.cells xs).map PV.f).all qSS)=true;rw[zM1];intro z hz;obtain⟨y,_,rfl⟩:=zNO.1 hz;rfl
   ·cases h
 | _=>exact h
def qUB (o:Oper)(env:List PV):Bool:=match o.op with
 | .call ⟨.value f,args,_⟩=>(match target (qJ env f) (args.toList.map (qJ env)) with
   | some (g,_)=>(match Frs.fr g with
     | none=>true
     | some _=>false)
   | none=>true)
 | _=>true
theorem qZ0 {env:List PV}(h:qUB o env=true):pfr o env=none:=by
 cases hp:pfr o env with
 | none=>rfl
 | some q =>
   obtain⟨el,n,cs⟩:=q;obtain⟨f,args,ts,g,hop,ht,hg⟩:=qMU hp;unfold qUB at h;rw[hop] at h;simp only[ht,hg] at h;cases h
def sfr (o:Oper)(env:List SV):Option SV:=match o.op with
 | .call ⟨.value f,args,_⟩=>(match rD (xS env f) (dM env args) with
   | some (g,[.d (.list el t) xs])=>(match Frs.fr g with
     | some el'=>cond (Nat.beq el el') (some (.d (.list el t) xs)) none
     | none=>none)
   | _=>none)
 | _=>none
theorem q9H (he:okL h env)(e:sfr o env=some x):∃ el t,∃ xs:List (Ty.sem t),x=.d (.list el t) xs∧pfr o (qB env)=some (el,xs.length,xs.flatMap t.cells):=by
 unfold sfr at e;split at e
 case h_2=>cases e
 rename_i f args ts hop;split at e
 case h_2=>cases e
 rename_i g el t xs hst;split at e
 case h_2=>cases e
 rename_i el' hg
 cases hc:Nat.beq el el' with
 | false=>rw[hc] at e;cases e
 | true =>
   rw[hc] at e;cases e;obtain⟨h1,_⟩:=dF (mH he f) (fA he args) hst;refine⟨el,t,xs,rfl,?_⟩;unfold pfr;rw[hop];simp only[qN,gG,h1,qB,SV.enc,Ty.fv,hg,hc,cond_true]
def frT (P:Program)(el:TypeId)(w:Nat)(t:Ty):Bool:=match szT P el,t with
 | some (s+1),.int k=>Nat.beq w (s+1)&&(kK P el&&decide (k=Frs.fk))
 | _,_=>false
theorem qTW {k:IntKind}:∀ (xs:List Int),(List.flatMap (Ty.int k).cells xs).all (isK k)=true
 | []=>rfl
 | x::xs=>by
   rw[zNQ,zQO,qTW xs];simp[Ty.cells,isK]
theorem qX3 {xs:List t.sem}(h:frT P el t.w t=true)(hn:Nat.ble xs.length 1048576=true):qLG P el xs.length (xs.flatMap t.cells)=true:=by
 unfold frT at h;unfold qLG;split at h
 ·rename_i s k hs;rw[zMY,zMY] at h;have hw:=zMZ h.1;have hk:k=Frs.fk:=of_decide_eq_true h.2.2;subst hk;rw[hs];have h1:(List.flatMap (Ty.int Frs.fk).cells xs).length=xs.length*(s+1):=by rw[zU,hw]
  have h2:(List.flatMap (Ty.int Frs.fk).cells xs).all (isK Frs.fk)=true:=qTW xs;show (Nat.beq (xs.length*(s+1)) (List.flatMap (Ty.int Frs.fk).cells xs).length&&(Nat.ble xs.length 1048576&&(kK P el&&(List.flatMap (Ty.int Frs.fk).cells xs).all (isK Frs.fk))))=true;rw[h1,h2,hn,h.2.1,zQ5];rfl
 ·cases h
theorem zD1 {w:Nat}(h:frT P el w t=true):szT P el=some w∧0 < w:=by
 unfold frT at h;split at h
 ·rename_i s k hs;rw[zMY] at h;have hw:=zMZ h.1;rw[hw];exact⟨hs,Nat.succ_pos _⟩
 ·cases h
def zC1 (P:Program)(el:TypeId)(t:Ty)(v:SV)(h:SH):Option SV:=match v with
 | .own k g _=>(match qZR el t k g (fun xs=>xs) h with
   | some (xs,_)=>some (.d (.list el t) xs)
   | none=>none)
 | .sl k g _ o m=>(match qZR el t k g (fun xs=>(xs.drop o).take m) h with
   | some (xs,_)=>some (.d (.list el t) xs)
   | none=>none)
 | _=>none
def scp (P:Program)(o:Oper)(env:List SV)(h:SH):Option SV:=match o.op with
 | .call ⟨.value f,args,_⟩=>(match rD (xS env f) (dM env args) with
   | some (g,[v])=>(match Frs.fr g with
     | some el=>(match qED P 8 el with
       | some t=>zC1 P el t v h
       | none=>none)
     | none=>none)
   | _=>none)
 | _=>none
theorem q6Y {t:Ty}(ho:OkH P h)(hv:v.ok h)(e:zC1 P el t v h=some x):∃ xs:List t.sem,x=.d (.list el t) xs∧(∃ ph1,fzA P [v.enc] (qD h.l)=some ([.f (.l el xs.length (xs.flatMap t.cells))],ph1))∧∃ k t' o n,v.enc=.own k t' o n:=by
 have key:∀ {k n o m:Nat} {xs:List t.sem} {ph1:PHp},fz1 P 4 (qD h.l) (.own k n o m)=some ((Ty.list el t).fv xs,ph1)->fzA P [.own k n o m] (qD h.l)=some ([.f (.l el xs.length (xs.flatMap t.cells))],ph1):=fun {k n o m xs ph1} hz=>by
  unfold fzA fzP;simp only[hz,fzA];rfl
 unfold zC1 at e;split at e
 ·rename_i k g n;split at e
  ·rename_i xs h' hd;cases e;simp only[SV.ok] at hv;obtain⟨h1,_⟩:=qFK (ty:=0) (n:=n) (o:=0) (m:=n) ho hv (by omega) (fun xs hl=>by rw[zOH,<-hl,zPE]) hd;exact⟨xs,rfl,⟨_,by simp only[SV.enc];exact key h1⟩,_,_,_,_,by simp only[SV.enc];rfl⟩
  ·cases e
 ·rename_i k g n o m;split at e
  ·rename_i xs h' hd;cases e;simp only[SV.ok] at hv;obtain⟨h1,_⟩:=qFK (ty:=0) (n:=n) (o:=o) (m:=m) ho hv.1 hv.2 (fun xs hl=>rfl) hd;exact⟨xs,rfl,⟨_,by simp only[SV.enc];exact key h1⟩,_,_,_,_,by simp only[SV.enc];rfl⟩
  ·cases e
 ·cases e
theorem q9G (ho:OkH P h)(he:okL h env)(e:scp P o env h=some x):∃ el t,∃ xs:List (Ty.sem t),x=.d (.list el t) xs∧pfr o (qB env)=none∧(∃ f args ts,o.op=.call ⟨.value f,args,ts⟩) ∧
 (qLG P el xs.length (xs.flatMap t.cells)=true->pcp P o (qB env) (qD h.l)=some (.l el xs.length (xs.flatMap t.cells))):=by
 unfold scp at e;split at e
 case h_2=>cases e
 rename_i f args ts hop;split at e
 case h_2=>cases e
 rename_i g v hst;split at e
 case h_2=>cases e
 rename_i el hg;split at e
 case h_2=>cases e
 rename_i t ht;obtain⟨h1,h2⟩:=dF (mH he f) (fA he args) hst;simp only[okL] at h2;obtain⟨xs,rfl,⟨ph1,hz⟩,k,t',o',n',hv⟩:=q6Y ho h2.1 e
 have htg:target (qJ (qB env) f) (args.toList.map (qJ (qB env)))=some (g,[v.enc]):=by
  simp only[qN,gG,h1,qB]
 refine⟨el,t,xs,rfl,?_,⟨f,args,ts,hop⟩,fun hfo=>?_⟩
 ·unfold pfr;rw[hop];simp only[htg,hv]
 ·unfold pcp;rw[hop];simp only[htg,hg,hz];unfold zCI;simp only[hfo,show Nat.beq el el=true by simp,zNX,cond_true]
theorem q08 {env:List PV}{ph:PHp}(h:qUB o env=true):pcp P o env ph=none:=by
 cases hq:pcp P o env ph with
 | none=>rfl
 | some y =>
   obtain⟨f,args,ts,g,as,el,n,cs,p1,hop,ht,hg,_⟩:=pM hq;unfold qUB at h;rw[hop] at h;simp only[ht,hg] at h;cases h
def zEO (ops:Array Oper):Bool:=ops.toList.any fun o=>match o.op with
 | .call ⟨.value (.func g),_,_⟩=>(Frs.fr g).isSome
 | _=>false
def qC7 (P:Program)(T:yY)(nm:Nm)(ds:List (Option Tmp))(b:Array Nat)(zFE:List SV)(h0:SH):Nat->List Oper->List SV->SH->List (Nat×List Nat)->List (Nat×List Nat)->List (Nat×Nat)->List (Nat×PV)->List (Nat×List (Nat×SO))->(List SV->SH->zE9 R)->zE9 R
 | i,[],env,h,E,F,N,V,O,K=>cond (zDI b h0.l (qB zFE) E F N V O) (K env h) .fail
 | i,o::l,env,h,E,F,N,V,O,K=>qCK ds o env
    (fun env=>match scp P o env h with
     | some (.d (.list el t) xs)=>cond (frT P el t.w t&&(nA o (qB env)).all (q2R h.l)) (.ite (Nat.ble xs.length 1048576)
        (qC7 P T nm ds b zFE h0 (i+1) l (dO env o.dst (.d (.list el t) xs)) h E ((i,dlC o (qB env))::F) N ((i,(SV.d (.list el t) xs).enc)::V) O K) .fail) .fail
     | some _=>.fail
     | none=>match sfr o env with
      | some (.d (.list el t) xs)=>cond (frT P el t.w t&&inP nm (qH nm o.dst)) (.ite (Nat.beq xs.length 0)
         (qC7 P T nm ds b zFE h0 (i+1) l (dO env o.dst (.d (.list el t) [])) h E ((i,dlC o (qB env))::F) N ((i,.f (.l el 0 []))::V) O K)
         (.ite (Nat.ble xs.length 1048576)
           (qC7 P T nm ds b zFE h0 (i+1) l (dO env o.dst (.own (qH nm o.dst) h.next xs.length)) (h.new (qH nm o.dst) fun v=>.list el true v v t xs) ((i,[qH nm o.dst])::E) F ((i,qH nm o.dst)::N) ((i,.own (qH nm o.dst) xs.length 0 xs.length)::V)
             ((i,qLA [qH nm o.dst] (h.new (qH nm o.dst) fun v=>.list el true v v t xs).l)::O) K) .fail)) .fail
      | some _=>.fail
      | none=>cond ((qUB o (qB env)&&(okE o||(!qY o||xQ o)))&&((nA o (qB env)).all (q2R h.l)&&cond (needs o.op) (inP nm (qH nm o.dst)) true)) (q14 P T true (qH nm o.dst) o env h fun v h' =>
      qC7 P T nm ds b zFE h0 (i+1) l (dO env o.dst v) h' (cond (okE o) ((i,RC o (qH nm o.dst) (qB env))::E) E) (cond (okE o) F ((i,dlC o (qB env))::F)) (cond (needs o.op) ((i,qH nm o.dst)::N) N) ((i,v.enc)::V) (cond (okE o) ((i,qLA (RC o (qH nm o.dst) (qB env)) h'.l)::O) O) K) .fail)
    (fun env=>qC7 P T nm ds b zFE h0 (i+1) l (dO env o.dst (.tup [])) h E F N ((i,.tup [])::V) O K)
theorem cO {T:yY}(ht:qRC tab T){ds:List (Option Tmp)}{b:Array Nat}{zFE:List SV}{h0:SH}:∀ {l:List Oper} {i:Nat} {env:List SV} {h:SH} {E F:List (Nat×List Nat)} {N:List (Nat×Nat)} {V:List (Nat×PV)} {O:List (Nat×List (Nat×SO))} {K:List SV->SH->zE9 R},OkH P h->okL h env->(qC7 P T nm ds b zFE h0 i l env h E F N V O K).run=some r ->
 (qLB P tab nm ds b (qB zFE) (qD h0.l) i l (qB env) (qD h.l) E F N V (q2Q O)).holds P G fun e p=>∃ env' h',e=qB env'∧p=qD h'.l∧Ends P (l.map (·.dst)) env h env' h'∧(K env' h').run=some r
 | [],i,env,h,E,F,N,V,O,K,ho,he,e=>by
   unfold qC7 at e;obtain⟨c,e1⟩:=qF e;exact⟨q8D c,env,h,rfl,rfl,⟨he,ho,.refl _,fun _ _=>rfl,rfl⟩,e1⟩
 | o::l,i,env,h,E,F,N,V,O,K,ho,he,e=>by
   unfold qC7 at e;obtain⟨zFG,q1,q2,q3,q4⟩:=rP he e;unfold qLB vB
   rcases q4 with ⟨hw,e1⟩ | ⟨hw,e1⟩
   ·rw[hw];simp only;split at e1
    ·rename_i el t xs hsc;obtain⟨el',t',xs',hx,hpf,⟨f,args,ts,hop⟩,hcp⟩:=q9G ho q2 hsc;cases hx;rw[q1] at hpf hcp;obtain⟨c,e2⟩:=qF e1;rw[zMY] at c
     rcases run_ite e2 with ⟨z,e3⟩ | ⟨_,e3⟩
     ·have hcp:=hcp (qX3 c.1 z);have c2:xD o (qB env) (qD h.l)=true:=zM1.2 fun x hx=>qOD (zM1.1 c.2 x (by rw[q1];exact hx))
      have hfr:qEG o (qB env)=false:=by unfold qEG;rw[hpf]
      have zHW:okF o (qB env)=false:=by unfold okF okE;rw[hop,hfr];rfl
      have zHX:ndF o (qB env)=false:=by unfold ndF needs;rw[hop,hfr];rfl
      rw[r9 hpf hcp c2];simp only[zHW,zHX,cond_false];unfold qBL;simp only[cond_false];have ih:=cO ht ho (wB (d:=o.dst) (v:=.d (.list el t) xs) q2 (by simp[SV.ok])) e3;rw[kW,q1] at ih;exact zFM (Q':=fun e p=>∃ env' h',e=qB env'∧p=qD h'.l∧Ends P ((o::l).map (·.dst)) env h env' h'∧(K env' h').run=some r) (fun e p ⟨env',h',b1,b2,b3,b4⟩=>⟨env',h',b1,b2,Ends.step q1 q3 (.refl _) b3,b4⟩) ih
     ·cases e3
    ·cases e1
    split at e1
    ·rename_i el t xs hsf;obtain⟨el',t',xs',hx,hpf⟩:=q9H q2 hsf;cases hx;rw[q1] at hpf;obtain⟨c,e2⟩:=qF e1;rw[zMY] at c;obtain⟨p1,p2⟩:=qJ3 hpf
     rcases run_ite e2 with ⟨z,e3⟩ | ⟨z,e3⟩
     ·have z0:xs=[]:=List.eq_nil_of_length_eq_zero (zMZ z);subst z0;have hfr:qEG o (qB env)=false:=by unfold qEG;rw[hpf];rfl
      have zHW:okF o (qB env)=false:=by unfold okF;rw[p1,hfr];rfl
      have zHX:ndF o (qB env)=false:=by unfold ndF;rw[p2,hfr];rfl
      rw[nL hpf (qX3 c.1 rfl)];simp only[zHW,zHX,cond_false];unfold qBL;simp only[cond_false];have ih:=cO ht ho (wB (d:=o.dst) (v:=.d (.list el t) []) q2 (by simp[SV.ok])) e3;rw[kW,q1] at ih;exact zFM (Q':=fun e p=>∃ env' h',e=qB env'∧p=qD h'.l∧Ends P ((o::l).map (·.dst)) env h env' h'∧(K env' h').run=some r) (fun e p ⟨env',h',b1,b2,b3,b4⟩=>⟨env',h',b1,b2,Ends.step q1 q3 (.refl _) b3,b4⟩) ih
     ·rcases run_ite e3 with ⟨z2,e4⟩ | ⟨z2,e4⟩
      ·cases hn:xs.length with
       | zero=>rw[hn] at z;cases z
       | succ n =>
       rw[hn] at hpf;have hfr:qEG o (qB env)=true:=by unfold qEG;rw[hpf]
       have zHW:okF o (qB env)=true:=by unfold okF;rw[hfr,zQR]
       have zHX:ndF o (qB env)=true:=by unfold ndF;rw[hfr,zQR]
       have hRF:RF o (qH nm o.dst) (qB env)=[qH nm o.dst]:=by unfold RF;rw[hfr];rfl
       have hfo:=qX3 c.1 z2;rw[hn] at hfo;rw[nL hpf hfo];simp only[zHW,zHX,hRF,cond_true];unfold qBL;simp only[cond_true];have hnw:=yN (k:=qH nm o.dst) (f:=fun v=>.list el true v v t xs) ho ⟨rfl,rfl,zD1 c.1⟩;have ih:=cO ht hnw.2 (wB (d:=o.dst) (v:=.own (qH nm o.dst) h.next xs.length) (qI hnw.1 q2) (jK rfl)) e4;rw[kW,q1] at ih;have ih2:=zFM (Q':=fun e p=>∃ env' h',e=qB env'∧p=qD h'.l∧Ends P ((o::l).map (·.dst)) env h env' h'∧(K env' h').run=some r) (fun e p ⟨env',h',b1,b2,b3,b4⟩=>⟨env',h',b1,b2,Ends.step q1 q3 hnw.1 b3,b4⟩) ih
       have eO:q2Q ((i,qLA [qH nm o.dst] (h.new (qH nm o.dst) fun v=>.list el true v v t xs).l)::O)=(i,bK [qH nm o.dst] (qD (h.new (qH nm o.dst) fun v=>.list el true v v t xs).l))::q2Q O:=by
        show (i,qD (qLA _ _))::q2Q O=_;rw[qCJ]
       rw[eO] at ih2;simp only[SV.enc,hn] at ih2;exact⟨c.2,ih2⟩
      ·cases e4
    ·cases e1
    rename_i hsf;obtain⟨c,e2⟩:=qF e1;rw[zMY,zMY,zMY] at c;have hpf:pfr o (qB env)=none:=by rw[<-q1];exact qZ0 c.1.1
    have hfr:qEG o (qB env)=false:=by unfold qEG;rw[hpf]
    have zHW:okF o (qB env)=okE o:=by unfold okF;rw[hfr,zQZ]
    have zHX:ndF o (qB env)=needs o.op:=by unfold ndF;rw[hfr,zQZ]
    have hRF:RF o (qH nm o.dst) (qB env)=RC o (qH nm o.dst) (qB env):=by unfold RF;rw[hfr];rfl
    obtain⟨v,h',a1,a2,a3⟩:=qHT ht ho q2 e2;rw[q1] at a1;have c2:xD o (qB env) (qD h.l)=true:=zM1.2 fun x hx=>qOD (zM1.1 c.2.1 x (by rw[q1];exact hx))
    rw[nW hpf (q08 (by rw[<-q1];exact c.1.1)) a1 c.1.2 c2];simp only[zHW,zHX,hRF];have ih:=cO ht a2.2.1 (wB (d:=o.dst) (qI a2.1 q2) a2.2.2) a3;rw[kW,q1] at ih;have ih2:=zFM (Q':=fun e p=>∃ env' h',e=qB env'∧p=qD h'.l∧Ends P ((o::l).map (·.dst)) env h env' h'∧(K env' h').run=some r) (fun e p ⟨env',h',b1,b2,b3,b4⟩=>⟨env',h',b1,b2,Ends.step q1 q3 a2.1 b3,b4⟩) ih
    have eO:q2Q (cond (okE o) ((i,qLA (RC o (qH nm o.dst) (qB env)) h'.l)::O) O)=cond (okE o) ((i,bK (RC o (qH nm o.dst) (qB env)) (qD h'.l))::q2Q O) (q2Q O):=by
     cases okE o with
     | false=>rfl
     | true =>
       show (i,qD (qLA _ _))::q2Q O=_;rw[qCJ];rfl
    rw[eO] at ih2;unfold qBL
    cases hn:needs o.op with
    | false=>rw[hn] at ih2;exact ih2
    | true =>
      have c3:=c.2.2;rw[hn] at c3 ih2;simp only[cond_true] at c3 ⊢;exact⟨c3,ih2⟩
   ·rw[hw];simp only;have ih:=cO ht ho (wB (d:=o.dst) (v:=.tup []) q2 (by simp[SV.ok,okL])) e1;rw[kW,q1] at ih;simp only[SV.enc,qB] at ih;exact zFM (fun e p ⟨env',h',b1,b2,b3,b4⟩=>⟨env',h',b1,b2,Ends.step q1 q3 (.refl _) b3,b4⟩) ih
def qQQ (ops:Array Oper):Bool:=match ops[ops.size - 1]? with
 | some o=>(match o.op with
   | .call ⟨.value _,_,_⟩=>(List.range (ops.size - 1)).all fun i=>vH (Region.before ops) i (ops.size - 1)
   | _=>false)
 | none=>false
def zC4 {Γ:Type}(P:Program)(G:Nat->Bool)(T:yY)(CI:CIT)(Y:YI Γ)(nm:Nm)(ops:Array Oper)(d:Bool)(g:Γ)(env:List SV)(h:SH)(K:Γ->List SV->SH->zE9 R):zE9 R :=
 cond (gK G ops) (cond d (cond (fO ops&&fV ops&&!(zEO ops&&mG ops)) (cond (qQQ ops)
  (qVR P T nm (ops.toList.map (·.dst)) (dBo ops) env 0 (ops.toList.take (ops.size - 1)) env h [] [] [] [] fun env h=>qY1 P T CI Y nm (ops.toList.map (·.dst)) (ops.toList.drop (ops.size - 1)) g env h K)
  (qVR P T nm (ops.toList.map (·.dst)) (dBo ops) env 0 ops.toList env h [] [] [] [] (K g))) (cond (mG ops) (qC7 P T nm (ops.toList.map (·.dst)) (Region.before ops) env h 0 ops.toList env h [] [] [] [] [] (K g)) .fail)) (qY1 P T CI Y nm (ops.toList.map (·.dst)) ops.toList g env h K)) .fail
variable {nat:xA}{good:FuncId->Bool}{rd:Bool}
theorem q4X [zFW P G]{Γ:Type}{w:Wld Γ}{T:yY}{CI:CIT}{Y:YI Γ}(s:zF2 P good nat G tab)(ht:qRC tab T)(hci:qYZ P G CI)(hy:YOk P G w Y){id:Nat}{ops:Array Oper}{d:Bool}{g:Γ}{K:Γ->List SV->SH->zE9 R}(ho:OkH P h)(he:okL h env)(e:(zC4 P G T CI Y nm ops d g env h K).run=some r) :
 qQ P G rd nm w (.region id ops d) g (qB env) (qD h.l) fun x g' pe ph=>x=.normal∧∃ env' h',pe=qB env'∧ph=qD h'.l∧Ends P (ops.toList.map (·.dst)) env h env' h'∧(K g' env' h').run=some r:=by
 unfold zC4 at e;obtain⟨c1,e1⟩:=qF e
 cases d with
 | true =>
   cases hc2:(fO ops&&fV ops&&!(zEO ops&&mG ops)) with
   | false =>
     rw[hc2] at e1;obtain⟨c3,e2⟩:=qF (show (cond (mG ops) (qC7 P T nm (ops.toList.map (·.dst)) (Region.before ops) env h 0 ops.toList env h [] [] [] [] [] (K g)) .fail:zE9 R).run=some r from e1);refine (qQ.of (s.zL3 (Q:=fun x pe ph=>x=.normal∧∃ env' h',pe=qB env'∧ph=qD h'.l∧Ends P (ops.toList.map (·.dst)) env h env' h'∧(K g env' h').run=some r) c1 c3 ?_)).mono ?_
     ·exact zFM (fun e p hq=>⟨rfl,hq⟩) (cO (G:=G) (O:=[]) ht ho he e2)
     ·rintro x g' pe ph ⟨rfl,hq⟩;exact hq
   | true =>
   have c2:=hc2;rw[hc2] at e1
   have e2:(cond (qQQ ops)
    (qVR P T nm (ops.toList.map (·.dst)) (dBo ops) env 0 (ops.toList.take (ops.size - 1)) env h [] [] [] [] fun env h=>qY1 P T CI Y nm (ops.toList.map (·.dst)) (ops.toList.drop (ops.size - 1)) g env h K)
    (qVR P T nm (ops.toList.map (·.dst)) (dBo ops) env 0 ops.toList env h [] [] [] [] (K g)):zE9 R).run=some r:=e1
   rw[zMY,zMY] at c2;have c2:=c2.1
   cases hlo:qQQ ops with
   | false =>
     rw[hlo] at e2;have e2:(qVR P T nm (ops.toList.map (·.dst)) (dBo ops) env 0 ops.toList env h [] [] [] [] (K g)).run=some r:=e2;refine (qQ.of (s.zLX (Q:=fun x pe ph=>x=.normal∧∃ env' h',pe=qB env'∧ph=qD h'.l∧Ends P (ops.toList.map (·.dst)) env h env' h'∧(K g env' h').run=some r) c1 c2.1 c2.2 rfl rfl ?_)).mono ?_
     ·exact zFM (fun e p hq=>⟨rfl,hq⟩) (qFZ (G:=G) ht ho he e2)
     ·rintro x g' pe ph ⟨rfl,hq⟩;exact hq
   | true =>
     rw[hlo] at e2;have e2:(qVR P T nm (ops.toList.map (·.dst)) (dBo ops) env 0 (ops.toList.take (ops.size - 1)) env h [] [] [] [] fun env h=>qY1 P T CI Y nm (ops.toList.map (·.dst)) (ops.toList.drop (ops.size - 1)) g env h K).run=some r:=e2;unfold qQQ at hlo;split at hlo
     ·rename_i o hop;split at hlo
      ·have hlt:=(zNB.1 hop).1
       have hdrop:ops.toList.drop (ops.size - 1)=[o]:=by
        have h1:ops.toList[ops.size - 1]?=some o:=by simpa using hop
        obtain⟨h2,h3⟩:=zM6.1 h1;rw[zP0 h2,h3,List.drop_eq_nil_of_le (by simp;omega)]
       have hmap:(ops.toList.take (ops.size - 1)).map (·.dst)++[o.dst]=ops.toList.map (·.dst):=by
        rw[show [o.dst]=[o].map (·.dst) from rfl,<-zN6,<-hdrop,zQ2]
       refine s.zL0 (inl:=qZ4 T) (n0:=ops.size - 1) c1 c2.1 c2.2 hop (by omega) (fun i hi=>zM1.1 hlo i (zPH.2 hi)) ?_;refine zFM (fun e p hq=>?_) (qFZ (G:=G) ht ho he e2);obtain⟨zFG,h1,rfl,rfl,a3,a4⟩:=hq;rw[hdrop] at a4;refine kI (fun g2 e p hq=>?_) (qGN (G:=G) ht hci hy a3.2.1 a3.1 a4);obtain⟨zFS,h2,rfl,rfl,b3,b4⟩:=hq;refine⟨rfl,zFS,h2,rfl,rfl,⟨b3.1,b3.2.1,a3.2.2.1.trans b3.2.2.1,fun i hi=>?_,b3.2.2.2.2.trans a3.2.2.2.2⟩,b4⟩;rw[<-hmap,zNM,not_or] at hi;exact (b3.2.2.2.1 i hi.2).trans (a3.2.2.2.1 i hi.1)
      ·cases hlo
     ·cases hlo
 | false=>exact s.zLZ c1 (kI (fun g e p hq=>⟨rfl,hq⟩) (qGN (G:=G) ht hci hy ho he e1))
end
end Go.Sv
