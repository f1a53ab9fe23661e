/- A symbolic run, part one. Conditions: none. -/
import Derived.Test.YtdohendjiddokaaGreatDoorPur23
set_option linter.all false
namespace Go.Sv
open Go.Idl
variable {el:TypeId}{j n off:Nat}{k:IntKind}
class Yl where
 l:Nat
variable [Gc]
variable {P:Program}{Z Z':Nat->Prop}{H:IH}{M:Nat->Option (Nat×PO)}
inductive Ty where
 | int (k:IntKind)
 | bool
 | str
 | unit
 | list (el:TypeId) (t:Ty)
 | pair (a b:Ty)
 | raw
 | ol (el:TypeId) (k:IntKind)
 | nif deriving DecidableEq
@[reducible] def Ty.sem:Ty->Type
  | .int _=>Int
  | .bool=>Bool
  | .str=>ByteArray
  | .unit=>Unit
  | .list _ t=>List t.sem
  | .pair a b=>a.sem×b.sem
  | .raw=>List (Value×Value)
  | .ol _ _=>List Int
  | .nif=>Unit
def eP (l:List (Value×Value)):List FV:=List.flatMap (fun p=>[.v p.1,.v p.2]) l
def fvo (el:TypeId)(k:IntKind):List Int->FV
 | []=>.v (.slice none 0 0)
 | x::xs=>.l el (xs.length+1) (List.flatMap (fun i=>[FV.v (.int k i)]) (x::xs))
def Ty.cells:(t:Ty)->t.sem->List FV
 | .int k,x=>[.v (.int k x)]
 | .bool,x=>[.v (.bool x)]
 | .str,x=>[.v (.string x)]
 | .unit,_=>[]
 | .list el t,xs=>[.l el (List.length xs) (List.flatMap t.cells xs)]
 | .pair a b,x=>a.cells x.1++b.cells x.2
 | .raw,xs=>[.l 1000000001 (List.length xs) (eP xs)]
 | .ol el k,xs=>[fvo el k xs]
 | .nif,_=>[.v .nilIface]
def Ty.w:Ty->Nat
 | .int _ | .bool | .str | .list _ _ | .raw | .ol _ _ | .nif=>1
 | .unit=>0
 | .pair a b=>a.w+b.w
def Ty.nol:Ty->Bool
 | .ol _ _=>false
 | .pair a b=>a.nol&&b.nol
 | _=>true
def Ty.one:Ty->Bool
 | .unit=>false
 | .pair _ _=>false
 | _=>true
def Ty.fv:(t:Ty)->t.sem->FV
 | .int k,x=>.v (.int k x)
 | .bool,x=>.v (.bool x)
 | .str,x=>.v (.string x)
 | .list el t,xs=>.l el (List.length xs) (List.flatMap t.cells xs)
 | .raw,xs=>.l 1000000001 (List.length xs) (eP xs)
 | .ol el k,xs=>fvo el k xs
 | .nif,_=>.v .nilIface
 | _,_=>.v undef
theorem Ty.cells_one:∀ {t:Ty} {x:t.sem},t.one=true->t.cells x=[t.fv x]
 | .int _,_,_=>rfl
 | .bool,_,_=>rfl
 | .str,_,_=>rfl
 | .list _ _,_,_=>rfl
 | .raw,_,_=>rfl
 | .ol _ _,_,_=>rfl
 | .nif,_,_=>rfl
 | .unit,_,h=>by cases h
 | .pair _ _,_,h=>by cases h
theorem Ty.zGW:∀ (t:Ty) (x:t.sem),(t.cells x).length=t.w
 | .int _,_=>rfl
 | .bool,_=>rfl
 | .str,_=>rfl
 | .list _ _,_=>rfl
 | .raw,_=>rfl
 | .ol _ _,_=>rfl
 | .nif,_=>rfl
 | .unit,_=>rfl
 | .pair a b,x=>by
   show (a.cells x.1++b.cells x.2).length=a.w+b.w;rw[zQL,a.zGW,b.zGW]
theorem zT {t:Ty}:∀ (xs:List t.sem),(xs.flatMap t.cells).length=xs.length*t.w
 | []=>by simp
 | x::xs=>by rw[zQS,zQL,t.zGW,zT xs,zQJ,zST,zSS]
theorem gI {t:Ty}:∀ (xs:List t.sem) (j:Nat),(xs.flatMap t.cells).drop (j*t.w)=(xs.drop j).flatMap t.cells
 | xs,0=>by simp
 | [],j+1=>by simp
 | x::xs,j+1=>by
   rw[zQS,List.drop_succ_cons,<-gI xs j,zST,zSS,<-zTV]
   congr 1
   rw[List.drop_append_of_le_length (by rw[t.zGW];exact zP0 _),zT1 (by rw[t.zGW];exact zP0 _),List.nil_append]
theorem gM {t:Ty}:∀ (xs:List t.sem) (j:Nat),(xs.flatMap t.cells).take (j*t.w)=(xs.take j).flatMap t.cells
 | xs,0=>by simp
 | [],j+1=>by simp
 | x::xs,j+1=>by
   rw[zQS,zR2,zQS,<-gM xs j,zST,zSS,List.take_append,t.zGW,zTW,zQT (by rw[t.zGW];omega)]
theorem qWY {t:Ty}{xs:List t.sem}{x:t.sem}(h:xs[j]?=some x):((xs.flatMap t.cells).drop (j*t.w)).take t.w=t.cells x:=by
 rw[gI]
 have hj:=(zP4.1 h)
 obtain⟨hl,hx⟩:=hj;rw[zSY hl,hx,zQS,List.take_append_of_le_length (by rw[t.zGW];exact zP0 _),zQT (by rw[t.zGW];exact zP0 _)]
theorem qMB {t:Ty}{xs:List t.sem}{x:t.sem}(h:xs[j]?=some x)(hn:off+n<=t.w):((xs.flatMap t.cells).drop (j*t.w+off)).take n=((t.cells x).drop off).take n:=by
 rw[<-qWY h,List.drop_take,zTV,zTE,zRO (by omega)]
theorem flat_get {t:Ty}{xs:List t.sem}{x:t.sem}(h:xs[j]?=some x)(hn:off < t.w):(xs.flatMap t.cells)[j*t.w+off]?=(t.cells x)[off]?:=by
 rw[<-qWY h,zRN,if_pos hn,zRQ]
theorem qIB {t:Ty}{xs:List t.sem}{x:t.sem}(h:xs[j]?=some x)(hn:off+n<=t.w):j*t.w+off+n<=(xs.flatMap t.cells).length:=by
 have hl:=(zP4.1 h).1;rw[zT];have:(j+1)*t.w<=xs.length*t.w:=zQ6 _ hl;rw[zST] at this;omega
theorem qLB:∀ (xs ys:List (Value×Value)),eP xs=eP ys->xs=ys
 | [],[],_=>rfl
 | [],y::ys,h=>by cases h
 | x::xs,[],h=>by cases h
 | x::xs,y::ys,h=>by
   have h:FV.v x.1::FV.v x.2::eP xs=FV.v y.1::FV.v y.2::eP ys:=h;injection h with h1 h2;injection h2 with h2 h3;injection h1 with h1;injection h2 with h2;rw[qLB xs ys h3,Prod.ext h1 h2]
theorem qC6:∀ (xs:List (Value×Value)),(eP xs).length=2*xs.length
 | []=>rfl
 | x::xs=>by
   show (eP xs).length+2=_;rw[qC6 xs,zQJ];omega
theorem qP2:∀ (xs ys:List (Value×Value)) (vs:List Value),FRL Z H (eP xs) vs->FRL Z' H (eP ys) vs->xs=ys
 | [],[],_,_,_=>rfl
 | [],y::ys,vs,a,b=>by have:=a.len;have:=b.len;simp[eP] at *;omega
 | x::xs,[],vs,a,b=>by have:=a.len;have:=b.len;simp[eP] at *;omega
 | x::xs,y::ys,vs,a,b=>by
   have a:FRL Z H (FV.v x.1::FV.v x.2::eP xs) vs:=a;have b:FRL Z' H (FV.v y.1::FV.v y.2::eP ys) vs:=b;obtain⟨v,vs',rfl,a1,a2⟩:=a.zGP;obtain⟨v',vs2,e,b1,b2⟩:=b.zGP;cases e;obtain⟨w,vs3,rfl,a3,a4⟩:=a2.zGP;obtain⟨w',vs4,e,b3,b4⟩:=b2.zGP;cases e;have e1:=(qML a1).symm.trans (qML b1);have e2:=(qML a3).symm.trans (qML b3);rw[qP2 xs ys _ a4 b4,Prod.ext e1 e2]
theorem qQE {k:IntKind}:∀ (xs ys:List Int),List.flatMap (fun i=>[FV.v (.int k i)]) xs=List.flatMap (fun i=>[FV.v (.int k i)]) ys->xs=ys
 | [],[],_=>rfl
 | [],y::ys,h=>by simp at h
 | x::xs,[],h=>by simp at h
 | x::xs,y::ys,h=>by
   have h:FV.v (.int k x)::List.flatMap (fun i=>[FV.v (.int k i)]) xs=FV.v (.int k y)::List.flatMap (fun i=>[FV.v (.int k i)]) ys:=h;injection h with h1 h2;injection h1 with h1;injection h1 with _ h1;rw[h1,qQE xs ys h2]
theorem qRL (xs:List Int):(List.flatMap (fun i=>[FV.v (.int k i)]) xs).length=xs.length:=by
 induction xs with
 | nil=>rfl
 | cons x xs ih=>rw[zQS,zQL,ih];simp;omega
theorem qKP {k:IntKind}:∀ (xs ys:List Int) (vs:List Value),FRL Z H (List.flatMap (fun i=>[FV.v (.int k i)]) xs) vs->FRL Z' H (List.flatMap (fun i=>[FV.v (.int k i)]) ys) vs->xs=ys
 | [],[],_,_,_=>rfl
 | [],y::ys,vs,a,b=>by have:=a.len;have:=b.len;simp at *;omega
 | x::xs,[],vs,a,b=>by have:=a.len;have:=b.len;simp at *;omega
 | x::xs,y::ys,vs,a,b=>by
   have a:FRL Z H (FV.v (.int k x)::List.flatMap (fun i=>[FV.v (.int k i)]) xs) vs:=a;have b:FRL Z' H (FV.v (.int k y)::List.flatMap (fun i=>[FV.v (.int k i)]) ys) vs:=b;obtain⟨v,vs',rfl,a1,a2⟩:=a.zGP;obtain⟨v',vs2,e,b1,b2⟩:=b.zGP;cases e;have e1:=(qML a1).symm.trans (qML b1);injection e1 with _ e1;rw[qKP xs ys _ a2 b2,e1]
theorem q9K:∀ {xs ys:List Int},fvo el k xs=fvo el k ys->xs=ys
 | [],[],_=>rfl
 | [],_::_,h=>by cases h
 | _::_,[],h=>by cases h
 | x::xs,y::ys,h=>by
   injection h with _ _ h;exact qQE _ _ h
theorem q2B {v:Value}:∀ {xs ys:List Int},FR Z H (fvo el k xs) v->FR Z' H (fvo el k ys) v->xs=ys
 | [],[],_,_=>rfl
 | [],_::_,a,b=>by have:=qML a;subst this;cases b
 | _::_,[],a,b=>by have:=qML b;subst this;cases a
 | x::xs,y::ys,a,b=>by
   obtain⟨h1,ws,ws',h2,h3,h4⟩:=oZ a b;have:=h4 (by rw[qRL,qRL];simpa using h1);subst this;exact qKP _ _ ws h2 h3
theorem Ty.inj:∀ (t:Ty) (x y:t.sem),t.cells x=t.cells y->x=y
 | .int _,x,y,h=>by injection h with h;injection h with h;injection h
 | .bool,x,y,h=>by injection h with h;injection h with h;injection h
 | .str,x,y,h=>by injection h with h;injection h with h;injection h
 | .unit,_,_,_=>rfl
 | .nif,_,_,_=>rfl
 | .ol el k,xs,ys,h=>by
   injection h with h;exact q9K h
 | .raw,xs,ys,h=>by
   injection h with h;injection h with _ h1 h2;exact qLB _ _ h2
 | .pair a b,x,y,h=>by
   have:=List.append_inj (show a.cells x.1++b.cells x.2=a.cells y.1++b.cells y.2 from h) (by rw[a.zGW,a.zGW]);exact Prod.ext (a.inj _ _ this.1) (b.inj _ _ this.2)
 | .list el t,xs,ys,h=>by
   injection h with h;injection h with _ h1 h2;exact go t xs ys h1 h2
where
 go (t:Ty):∀ (xs ys:List t.sem),xs.length=ys.length->xs.flatMap t.cells=ys.flatMap t.cells->xs=ys
 | [],[],_,_=>rfl
 | [],y::ys,e,h=>by cases e
 | x::xs,[],e,h=>by cases e
 | x::xs,y::ys,e,h=>by
   rw[zQS,zQS] at h;have:=List.append_inj h (by rw[t.zGW,t.zGW]);rw[t.inj x y this.1,go t xs ys (by simpa using e) this.2]
theorem Ty.uniq:∀ (t:Ty) {x y:t.sem} {vs:List Value},FRL Z H (t.cells x) vs->FRL Z' H (t.cells y) vs->x=y
 | .int k,x,y,vs,a,b=>by
   obtain⟨v,vs',rfl,a1,_⟩:=a.zGP;obtain⟨v',vs2,e,b1,_⟩:=b.zGP;cases e;have:=(qML a1).symm.trans (qML b1);injection this
 | .bool,x,y,vs,a,b=>by
   obtain⟨v,vs',rfl,a1,_⟩:=a.zGP;obtain⟨v',vs2,e,b1,_⟩:=b.zGP;cases e;have:=(qML a1).symm.trans (qML b1);injection this
 | .str,x,y,vs,a,b=>by
   obtain⟨v,vs',rfl,a1,_⟩:=a.zGP;obtain⟨v',vs2,e,b1,_⟩:=b.zGP;cases e;have:=(qML a1).symm.trans (qML b1);injection this
 | .unit,_,_,_,_,_=>rfl
 | .nif,_,_,_,_,_=>rfl
 | .ol el k,xs,ys,vs,a,b=>by
   obtain⟨v,vs',rfl,a1,_⟩:=a.zGP;obtain⟨v',vs2,e,b1,_⟩:=b.zGP;cases e;exact q2B a1 b1
 | .raw,xs,ys,vs,a,b=>by
   obtain⟨v,vs',rfl,a1,_⟩:=a.zGP;obtain⟨v',vs2,e,b1,_⟩:=b.zGP;cases e;obtain⟨h1,ws,ws',h2,h3,h4⟩:=oZ a1 b1;have:=h4 (by rw[qC6,qC6,h1]);subst this;exact qP2 xs ys ws h2 h3
 | .pair s t,x,y,vs,a,b=>by
   obtain⟨a1,a2⟩:=FRL.split (xs:=s.cells x.1) (ys:=t.cells x.2) a;obtain⟨b1,b2⟩:=FRL.split (xs:=s.cells y.1) (ys:=t.cells y.2) b;rw[s.zGW] at a1 a2 b1 b2;exact Prod.ext (s.uniq a1 b1) (t.uniq a2 b2)
 | .list el t,xs,ys,vs,a,b=>by
   obtain⟨v,vs',rfl,a1,_⟩:=a.zGP;obtain⟨v',vs2,e,b1,_⟩:=b.zGP;cases e;obtain⟨h1,ws,ws',h2,h3,h4⟩:=oZ a1 b1;have:=h4 (by rw[zT,zT,h1]);subst this;exact go t xs ys ws h1 h2 h3
where
 go (t:Ty):∀ (xs ys:List t.sem) (vs:List Value),xs.length=ys.length->FRL Z H (xs.flatMap t.cells) vs->FRL Z' H (ys.flatMap t.cells) vs->xs=ys
 | [],[],_,_,_,_=>rfl
 | [],y::ys,vs,e,a,b=>by cases e
 | x::xs,[],vs,e,a,b=>by cases e
 | x::xs,y::ys,vs,e,a,b=>by
   rw[zQS] at a b;obtain⟨a1,a2⟩:=a.split;obtain⟨b1,b2⟩:=b.split;rw[t.zGW] at a1 a2 b1 b2;rw[t.uniq a1 b1,go t xs ys _ (by simpa using e) a2 b2]
def Ty.pv (t:Ty)(x:t.sem):PV:=cond t.one (.f (t.fv x)) (.agg ((t.cells x).map .f))
def Ty.en (t:Ty):PEn t.sem:=⟨t.pv,fun x y h=>by
 unfold Ty.pv at h
 cases ht:t.one with
 | true =>
   rw[ht] at h;injection h with h;exact t.inj x y (by rw[Ty.cells_one ht,Ty.cells_one ht,h])
 | false =>
   rw[ht] at h;injection h with h
   exact t.inj x y (zC9 _ _ h),fun P Z Z' H x y v a b=>by
 unfold Ty.pv at a b
 cases ht:t.one with
 | true =>
   rw[ht] at a b
   cases a with
   | f a=>cases b with
     | f b=>exact t.uniq (vs:=[v]) (by rw[Ty.cells_one ht];exact .cons a ⟨rfl,fun i x v h=>by simp at h⟩) (by rw[Ty.cells_one ht];exact .cons b ⟨rfl,fun i x v h=>by simp at h⟩)
 | false =>
   rw[ht] at a b;obtain⟨vs,rfl,h1⟩:=VR.zJA a;obtain⟨vs',e,h2⟩:=VR.zJA b;cases e
   exact t.uniq (qDI h1) (qDI h2)⟩
@[reducible] def TyL:List Ty->Type
  | []=>Unit
  | [t]=>t.sem
  | t::u::ts=>t.sem×TyL (u::ts)
def pvL:(ts:List Ty)->TyL ts->List PV
 | [],_=>[]
 | [t],x=>[t.pv x]
 | t::u::ts,x=>t.pv x.1::pvL (u::ts) x.2
theorem qZA:∀ (ts:List Ty) (x y:TyL ts),pvL ts x=pvL ts y->x=y
 | [],_,_,_=>rfl
 | [t],x,y,h=>by injection h with h;exact t.en.inj x y h
 | t::u::ts,x,y,h=>by
   injection h with h1 h2;exact Prod.ext (t.en.inj _ _ h1) (qZA (u::ts) _ _ h2)
theorem qPI:∀ (ts:List Ty) (x y:TyL ts) (vs:List Value),VRL P Z H (fun _=>none) (pvL ts x) vs->VRL P Z' H (fun _=>none) (pvL ts y) vs->x=y
 | [],_,_,_,_,_=>rfl
 | [t],x,y,vs,a,b=>by
   obtain⟨v,vs',rfl,a1,_⟩:=a.zGP;obtain⟨v',vs2,e,b1,_⟩:=b.zGP;cases e;exact t.en.uniq P Z Z' H x y v a1 b1
 | t::u::ts,x,y,vs,a,b=>by
   obtain⟨v,vs',rfl,a1,a2⟩:=a.zGP;obtain⟨v',vs2,e,b1,b2⟩:=b.zGP;cases e;exact Prod.ext (t.en.uniq P Z Z' H _ _ v a1 b1) (qPI (u::ts) _ _ _ a2 b2)
def enL (ts:List Ty):AEn (TyL ts):=⟨pvL ts,qZA ts,fun P Z Z' H x y vs a b=>qPI ts x y vs a b⟩
def jP:(ts:List Ty)->TyL ts->PV:=fun ts x=>qEE (pvL ts x)
end Go.Sv
namespace Go.Sv
open Go.Idl
variable [Gc]
variable {P:Program}
variable {b:Bool}{k:Nat}
def zGM (R:Type):Type:=Option R
section
variable {R α σ ρ:Type}
def zGM.run (t:zGM R):Option R:=t
def zGM.fail:zGM R:=(none:Option R)
def zGM.ret (r:R):zGM R:=some r
def zGM.ite (b:Bool)(x y:zGM R):zGM R:=cond b x y
noncomputable def zGM.bind (o:Option α)(k:α->zGM R):zGM R:=Option.rec zGM.fail k o
open Classical in
noncomputable def qOL (x y:Option R):Option R:=if x=y then x else none
noncomputable def zGM.both (x y:zGM R):zGM R:=zGM.bind (qOL x y) .ret
noncomputable def zGM.loop (f:σ->zGM (σ⊕ρ))(s:σ)(k:ρ->zGM R):zGM R:=zGM.bind (zH (fun s=>(f s).run) s) k
end
theorem run_ite {R:Type}{x y:zGM R}{r:R}(h:(zGM.ite b x y).run=some r):(b=true∧x.run=some r)∨(b=false∧y.run=some r):=by
 cases b with
 | true=>exact .inl ⟨rfl,h⟩
 | false=>exact .inr ⟨rfl,h⟩
theorem run_bind {R α:Type}{o:Option α}{k:α->zGM R}{r:R}(h:(zGM.bind o k).run=some r):∃ a,o=some a∧(k a).run=some r:=by
 cases o with
 | none=>cases h
 | some a=>exact⟨a,rfl,h⟩
theorem qQD {R σ ρ:Type}{f:σ->zGM (σ⊕ρ)}{s:σ}{k:ρ->zGM R}{r:R}(h:(zGM.loop f s k).run=some r):∃ a,zH (fun s=>(f s).run) s=some a∧(k a).run=some r:=run_bind h
theorem qXS {R:Type}{x y:Option R}{r:R}(h:qOL x y=some r):x=some r∧y=some r:=by
 unfold qOL at h;split at h
 ·rename_i e;exact⟨h,e ▸ h⟩
 ·cases h
theorem q1O {R:Type}{x y:zGM R}{r:R}(h:(zGM.both x y).run=some r):x.run=some r∧y.run=some r:=by
 obtain⟨a,h1,h2⟩:=run_bind h;cases h2;exact qXS h1
theorem qTK {R:Type}(x:Option R):qOL x x=x:=by unfold qOL;rw[if_pos rfl]
theorem qE {R:Type}{x:zGM R}{r:R}(h:(cond b x .fail).run=some r):b=true∧x.run=some r:=by
 cases b with
 | true=>exact⟨rfl,h⟩
 | false=>cases h
inductive SV where
 | d (t:Ty) (x:t.sem)
 | c (v:Value)
 | agg (l:List SV)
 | tup (l:List SV)
 | own (k g n:Nat)
 | sl (k g n o m:Nat)
 | ref (k off w:Nat)
 | elt (k g n w j off:Nat)
 | lp (t:Ty) (xs:List t.sem) (j off:Nat)
 | fn (f:FuncId) (first cap:List SV)
 | unk
 | yv
 | bq
 | mp (k:Nat)
 | opt (b:Bool) (k off w:Nat)
 | rfx (k off w:Nat)
 | etx (k g n w j off:Nat)
 | asl (el:TypeId) (k w n:Nat)
section
variable [Yl]
mutual
def SV.enc:SV->PV
 | .d t x=>.f (t.fv x)
 | .c v=>fvv v
 | .agg l=>.agg (qB l)
 | .tup l=>.tup (qB l)
 | .own k _ n=>.own k n 0 n
 | .sl k _ n o m=>.own k n o m
 | .ref k off w=>.ref k w off
 | .elt k _ n w j off=>.ref k (n*w) (j*w+off)
 | .lp t xs j off=>.lp (List.flatMap t.cells xs) (j*t.w+off)
 | .fn f a b=>.fn f (qB a) (qB b)
 | .unk=>.unk
 | .yv=>.yl Yl.l
 | .bq=>.bq
 | .mp k=>.mp k
 | .opt b k off w=>cond b (.ref k w off) (fvv (.pointer none))
 | .rfx k off w=>.ref k w off
 | .etx k _ n w j off=>.ref k (n*w) (j*w+off)
 | .asl el k _ n=>.asl el k n
def qB:List SV->List PV
 | []=>[]
 | x::l=>x.enc::qB l
end
theorem zD:∀ (l:List SV),qB l=l.map SV.enc
 | []=>by simp[qB]
 | x::l=>by simp[qB,zD l]
end
inductive SpO where
 | map (es:List (Value×Value))
 | iter (s:ByteArray) (pos:Nat)
 | mit (t:TypeId) (k since last:Nat) (seen:List Nat)
 | arr (el:TypeId) (k:IntKind) (xs:List Int)
def yD:Nat->List (Value×Value)->List MapEntry
 | _,[]=>[]
 | i,p::l=>⟨p.1,p.2,i⟩::yD (i+1) l
def SpO.enc:SpO->PO
 | .map es=>⟨1000000001,false,kQ (List.length es) (yD 0 es)⟩
 | .iter s pos=>⟨1000000000,false,qCU s pos⟩
 | .mit _ k since last seen=>⟨1000000002,false,qHM (.mp k) since last seen⟩
 | .arr el k xs=>⟨el,false,xs.map fun x=>fvv (.int k x)⟩
inductive SO where
 | spc (w:Nat) (x:SpO)
 | cells (el:TypeId) (w:Nat) (l:List SV)
 | list (el:TypeId) (gr:Bool) (g w:Nat) (t:Ty) (xs:List t.sem)
section
variable [Yl]
def SO.enc:SO->PO
 | .cells el _ l=>⟨el,false,qB l⟩
 | .list el gr _ _ t xs=>⟨el,gr,(List.flatMap t.cells xs).map .f⟩
 | .spc _ x=>x.enc
def SO.w:SO->Nat
 | .cells _ w _=>w
 | .list _ _ _ w _ _=>w
 | .spc w _=>w
structure SH where
 next:Nat
 l:List (Nat×SO)
def slk (k:Nat):List (Nat×SO)->Option SO
 | []=>none
 | (j,o)::l=>cond (k==j) (some o) (slk k l)
def sst (k:Nat)(o:SO):List (Nat×SO)->List (Nat×SO)
 | []=>[]
 | (j,p)::l=>cond (k==j) ((j,o)::l) ((j,p)::sst k o l)
def sdl (k:Nat):List (Nat×SO)->List (Nat×SO)
 | []=>[]
 | (j,p)::l=>cond (k==j) (sdl k l) ((j,p)::sdl k l)
def qC:List (Nat×SO)->PHp
 | []=>[]
 | (j,o)::l=>(j,o.enc)::qC l
theorem vQ (k:Nat):∀ (l:List (Nat×SO)),qA k (qC l)=(slk k l).map SO.enc
 | []=>rfl
 | (j,o)::l=>by
   show cond (k==j) (some o.enc) (qA k (qC l))=(cond (k==j) (some o) (slk k l)).map SO.enc;cases k==j
   ·exact vQ k l
   ·rfl
theorem xY (k:Nat)(o:SO):∀ (l:List (Nat×SO)),qC (sst k o l)=xO k o.enc (qC l)
 | []=>rfl
 | (j,p)::l=>by
   show qC (cond (k==j) ((j,o)::l) ((j,p)::sst k o l))=cond (k==j) ((j,o.enc)::qC l) ((j,p.enc)::xO k o.enc (qC l));cases k==j
   ·show (j,p.enc)::qC (sst k o l)=_;rw[xY k o l];rfl
   ·rfl
theorem aB (k:Nat):∀ (l:List (Nat×SO)),qC (sdl k l)=o8 k (qC l)
 | []=>rfl
 | (j,p)::l=>by
   show qC (cond (k==j) (sdl k l) ((j,p)::sdl k l))=cond (k==j) (o8 k (qC l)) ((j,p.enc)::o8 k (qC l));cases k==j
   ·show (j,p.enc)::qC (sdl k l)=_;rw[aB k l];rfl
   ·exact aB k l
end
theorem qF1 {k j:Nat}{o:SO}(hj:j≠k):∀ (l:List (Nat×SO)),slk j (sst k o l)=slk j l
 | []=>rfl
 | (i,p)::l=>by
   show slk j (cond (k==i) ((i,o)::l) ((i,p)::sst k o l))=cond (j==i) (some p) (slk j l)
   cases h:k==i with
   | true =>
     have:k=i:=by simpa using h
     subst this;show cond (j==k) (some o) (slk j l)=_;rw[show (j==k)=false by simpa using hj];rfl
   | false =>
     show cond (j==i) (some p) (slk j (sst k o l))=_;rw[qF1 hj l]
theorem qXK {k:Nat}{o p:SO}:∀ {l:List (Nat×SO)},slk k l=some p->slk k (sst k o l)=some o
 | (i,q)::l,h=>by
   have h:cond (k==i) (some q) (slk k l)=some p:=h;show slk k (cond (k==i) ((i,o)::l) ((i,q)::sst k o l))=some o
   cases hi:k==i with
   | true =>
     show cond (k==i) (some o) (slk k l)=some o;rw[hi];rfl
   | false =>
     rw[hi] at h;show cond (k==i) (some q) (slk k (sst k o l))=some o;rw[hi];exact qXK (l:=l) h
theorem kZ {k j:Nat}(hj:j≠k):∀ (l:List (Nat×SO)),slk j (sdl k l)=slk j l
 | []=>rfl
 | (i,p)::l=>by
   show slk j (cond (k==i) (sdl k l) ((i,p)::sdl k l))=cond (j==i) (some p) (slk j l)
   cases h:k==i with
   | true =>
     have:k=i:=by simpa using h
     subst this;rw[show (j==k)=false by simpa using hj];exact kZ hj l
   | false =>
     show cond (j==i) (some p) (slk j (sdl k l))=_;rw[kZ hj l]
theorem qMQ (k:Nat):∀ (l:List (Nat×SO)),slk k (sdl k l)=none
 | []=>rfl
 | (i,p)::l=>by
   show slk k (cond (k==i) (sdl k l) ((i,p)::sdl k l))=none
   cases h:k==i with
   | true=>exact qMQ k l
   | false =>
     show cond (k==i) (some p) (slk k (sdl k l))=none;rw[h];exact qMQ k l
theorem yA {j:Nat}{o:SO}{l:List (Nat×SO)}(hj:j≠k):slk j ((k,o)::l)=slk j l:=by
 show cond (j==k) (some o) (slk j l)=_;rw[show (j==k)=false by simpa using hj];rfl
theorem jK {o:SO}{l:List (Nat×SO)}:slk k ((k,o)::l)=some o:=by
 show cond (k==k) (some o) (slk k l)=_;simp
def qVE (h:SH)(k g n:Nat):Prop:=g < h.next∧∀ el gr w t xs,slk k h.l=some (.list el gr g w t xs)->n=xs.length
mutual
def SV.ok (h:SH):SV->Prop
 | .agg l=>okL h l
 | .tup l=>okL h l
 | .own k g n=>qVE h k g n
 | .sl k g n o m=>qVE h k g n∧o+m<=n
 | .elt k g n _ _ _=>qVE h k g n
 | .etx k g n _ _ _=>qVE h k g n
 | .fn _ a b=>okL h a∧okL h b
 | .asl _ k w n=>w < h.next∧∀ ob,slk k h.l=some ob->ob.w=w->∃ el ik,∃ xs:List Int,ob=.spc w (.arr el ik xs)∧n=xs.length
 | _=>True
def okL (h:SH):List SV->Prop
 | []=>True
 | x::l=>x.ok h∧okL h l
end
theorem zI {h:SH}:∀ {l:List SV},okL h l ↔ ∀ x∈l,x.ok h
 | []=>by simp[okL]
 | x::l=>by simp[okL,zI (l:=l)]
structure OkH (P:Program) (h:SH):Prop where
 ver:∀ k ob,slk k h.l=some ob->ob.w < h.next
 cells:∀ k el w l,slk k h.l=some (.cells el w l)->okL h l
 list:∀ k el gr g w t xs,slk k h.l=some (.list el gr g w t xs)->g < h.next∧szT P el=some t.w∧0 < t.w
structure Keep (h h':SH):Prop where
 next:h.next<=h'.next
 same:∀ k ob,slk k h'.l=some ob->ob.w < h.next->slk k h.l=some ob
 len:∀ k el gr g w t xs,slk k h'.l=some (.list el gr g w t xs)->g < h.next->∃ w0,∃ xs0:List t.sem,slk k h.l=some (.list el gr g w0 t xs0)∧xs0.length=xs.length
theorem Keep.refl (h:SH):Keep h h:=⟨zP0 _,fun _ _ h _=>h,fun k el gr g w t xs h _=>⟨w,xs,h,rfl⟩⟩
theorem Keep.trans {a b c:SH}(x:Keep a b)(y:Keep b c):Keep a c :=
 ⟨zQM x.next y.next,fun k ob h hw=>x.same k ob (y.same k ob h (zP3 hw x.next)) hw,fun k el gr g w t xs h hg=>by
   obtain⟨w1,xs1,h1,e1⟩:=y.len k el gr g w t xs h (zP3 hg x.next);obtain⟨w2,xs2,h2,e2⟩:=x.len k el gr g w1 t xs1 h1 hg
   exact⟨w2,xs2,h2,e2.trans e1⟩⟩
theorem qVE.keep {h h':SH}{g n:Nat}(a:qVE h k g n)(b:Keep h h'):qVE h' k g n :=
 ⟨zP3 a.1 b.next,fun el gr w t xs hk=>by
   obtain⟨w0,xs0,h0,e0⟩:=b.len k el gr g w t xs hk a.1
   rw[<-e0];exact a.2 el gr w0 t xs0 h0⟩
mutual
theorem SV.ok.keep {h h':SH}(b:Keep h h'):∀ {x:SV},x.ok h->x.ok h'
 | .agg l,a=>by simp only[SV.ok] at a ⊢;exact qI b a
 | .tup l,a=>by simp only[SV.ok] at a ⊢;exact qI b a
 | .own k g n,a=>by simp only[SV.ok] at a ⊢;exact a.keep b
 | .sl k g n o m,a=>by simp only[SV.ok] at a ⊢;exact⟨a.1.keep b,a.2⟩
 | .elt k g n w j off,a=>by simp only[SV.ok] at a ⊢;exact a.keep b
 | .etx k g n w j off,a=>by simp only[SV.ok] at a ⊢;exact a.keep b
 | .fn f x y,a=>by simp only[SV.ok] at a ⊢;exact⟨qI b a.1,qI b a.2⟩
 | .d _ _,_=>by simp[SV.ok]
 | .c _,_=>by simp[SV.ok]
 | .ref _ _ _,_=>by simp[SV.ok]
 | .lp _ _ _ _,_=>by simp[SV.ok]
 | .unk,_=>by simp[SV.ok]
 | .yv,_=>by simp[SV.ok]
 | .bq,_=>by simp[SV.ok]
 | .mp _,_=>by simp[SV.ok]
 | .opt _ _ _ _,_=>by simp[SV.ok]
 | .rfx _ _ _,_=>by simp[SV.ok]
 | .asl el k w n,a=>by
   simp only[SV.ok] at a ⊢;exact⟨zP3 a.1 b.next,fun ob ho hw=>a.2 ob (b.same k ob ho (by rw[hw];exact a.1)) hw⟩
theorem qI {h h':SH}(b:Keep h h'):∀ {l:List SV},okL h l->okL h' l
 | [],_=>by simp[okL]
 | x::l,a=>by simp only[okL] at a ⊢;exact⟨SV.ok.keep b a.1,qI b a.2⟩
end
def SH.new (h:SH)(k:Nat)(f:Nat->SO):SH:=⟨h.next+1,(k,f h.next)::h.l⟩
def SH.put (h:SH)(k:Nat)(f:Nat->SO):SH:=⟨h.next+1,sst k (f h.next) h.l⟩
def SH.del (h:SH)(k:Nat):SH:=⟨h.next,sdl k h.l⟩
def zCM (P:Program)(h:SH)(n:Nat):SO->Prop
 | .cells _ w l=>w=n∧okL h l
 | .list el _ g w t _=>w=n∧g=n∧szT P el=some t.w∧0 < t.w
 | .spc w _=>w=n
theorem q3Q {h:SH}{f:Nat->SO}(hw:(f h.next).w=h.next)(hg:∀ el gr g w t xs,f h.next=.list el gr g w t xs->g=h.next):Keep h (h.new k f) :=
 ⟨zTK _,fun j ob hj hlt=>by
   by_cases e:j=k
   ·subst e;rw[show slk j (h.new j f).l=some (f h.next) from jK] at hj;cases hj;omega
   ·rwa [show slk j (h.new k f).l=slk j h.l from yA e] at hj,fun j el gr g w t xs hj hlt=>by
   by_cases e:j=k
   ·subst e;rw[show slk j (h.new j f).l=some (f h.next) from jK] at hj;have:=hg _ _ _ _ _ _ (zQZ hj);omega
   ·rw[show slk j (h.new k f).l=slk j h.l from yA e] at hj
    exact⟨w,xs,hj,rfl⟩⟩
theorem xG {h:SH}{f:Nat->SO}(a:OkH P h)(hf:zCM P h h.next (f h.next)):Keep h (h.new k f)∧OkH P (h.new k f):=by
 have hw:(f h.next).w=h.next:=by
  cases hq:f h.next with
  | cells el w l=>rw[hq] at hf;exact hf.1
  | list el gr g w t xs=>rw[hq] at hf;exact hf.1
  | spc w x=>rw[hq] at hf;exact hf
 have hk:Keep h (h.new k f):=q3Q hw fun el gr g w t xs e=>by rw[e] at hf;exact hf.2.1
 refine⟨hk,⟨fun j ob hj=>?_,fun j el w l hj=>?_,fun j el gr g w t xs hj=>?_⟩⟩
 ·by_cases e:j=k
  ·subst e;rw[show slk j (h.new j f).l=some (f h.next) from jK] at hj;cases hj;rw[hw];exact zQY _
  ·rw[show slk j (h.new k f).l=slk j h.l from yA e] at hj;exact zRL (a.ver j ob hj)
 ·by_cases e:j=k
  ·subst e;rw[show slk j (h.new j f).l=some (f h.next) from jK] at hj;rw[zQZ hj] at hf;exact qI hk hf.2
  ·rw[show slk j (h.new k f).l=slk j h.l from yA e] at hj;exact qI hk (a.cells j el w l hj)
 ·by_cases e:j=k
  ·subst e;rw[show slk j (h.new j f).l=some (f h.next) from jK] at hj;rw[zQZ hj] at hf;exact⟨by rw[hf.2.1];exact zQY _,hf.2.2⟩
  ·rw[show slk j (h.new k f).l=slk j h.l from yA e] at hj;have:=a.list j el gr g w t xs hj;exact⟨zRL this.1,this.2⟩
def zE7 (h:SH)(n:Nat):SO->SO->Prop
 | .cells _ _ _,.cells _ w' l'=>w'=n∧okL h l'
 | .list el gr g _ t xs,ob'=>∃ xs':List t.sem,ob'=.list el gr g n t xs'∧xs.length=xs'.length
 | .spc _ _,.spc w' _=>w'=n
 | _,_=>False
theorem vV {h:SH}{f:Nat->SO}{ob:SO}(a:OkH P h)(hk:slk k h.l=some ob)(hf:zE7 h h.next ob (f h.next)):Keep h (h.put k f)∧OkH P (h.put k f):=by
 have hs:slk k (h.put k f).l=some (f h.next):=qXK hk;have hn:∀ j,j≠k->slk j (h.put k f).l=slk j h.l:=fun j hj=>qF1 hj _
 have hw:(f h.next).w=h.next:=by
  cases ob with
  | cells el w l =>
    cases hq:f h.next with
    | cells el' w' l'=>rw[hq] at hf;exact hf.1
    | list=>rw[hq] at hf;exact hf.elim
    | spc=>rw[hq] at hf;exact hf.elim
  | spc w0 x0 =>
    cases hq:f h.next with
    | spc w' x'=>rw[hq] at hf;exact hf
    | list=>rw[hq] at hf;exact hf.elim
    | cells=>rw[hq] at hf;exact hf.elim
  | list el gr g w t xs =>
    obtain⟨xs',e,_⟩:=hf;rw[e];rfl
 have hkp:Keep h (h.put k f):=by
  refine⟨zTK _,fun j o hj hlt=>?_,fun j el gr g w t xs hj hlt=>?_⟩
  ·by_cases e:j=k
   ·subst e;rw[hs] at hj;cases hj;omega
   ·rwa [hn j e] at hj
  ·by_cases e:j=k
   ·subst e;rw[hs] at hj;have hj:=zQZ hj
    cases ob with
    | cells el0 w0 l0 =>
      rw[hj] at hf;exact hf.elim
    | spc w0 x0 =>
      rw[hj] at hf;exact hf.elim
    | list el0 gr0 g0 w0 t0 xs0 =>
      obtain⟨xs',e2,e3⟩:=hf;rw[e2] at hj;injection hj with a1 a2 a3 a4 a5 a6;subst a1 a2 a3 a5;cases a6;exact⟨w0,xs0,hk,e3⟩
   ·rw[hn j e] at hj;exact⟨w,xs,hj,rfl⟩
 refine⟨hkp,⟨fun j o hj=>?_,fun j el w l hj=>?_,fun j el gr g w t xs hj=>?_⟩⟩
 ·by_cases e:j=k
  ·subst e;rw[hs] at hj;cases hj;rw[hw];exact zQY _
  ·rw[hn j e] at hj;exact zRL (a.ver j o hj)
 ·by_cases e:j=k
  ·subst e;rw[hs] at hj;have hj:=zQZ hj
   cases ob with
   | cells el0 w0 l0=>rw[hj] at hf;exact qI hkp hf.2
   | spc w0 x0=>rw[hj] at hf;exact hf.elim
   | list el0 gr0 g0 w0 t0 xs0 =>
     obtain⟨xs',e2,e3⟩:=hf;rw[e2] at hj;cases hj
  ·rw[hn j e] at hj;exact qI hkp (a.cells j el w l hj)
 ·by_cases e:j=k
  ·subst e;rw[hs] at hj;have hj:=zQZ hj
   cases ob with
   | cells el0 w0 l0=>rw[hj] at hf;exact hf.elim
   | spc w0 x0=>rw[hj] at hf;exact hf.elim
   | list el0 gr0 g0 w0 t0 xs0 =>
     obtain⟨xs',e2,e3⟩:=hf;rw[e2] at hj;injection hj with a1 a2 a3 a4 a5 a6;subst a1 a2 a3 a5;have:=a.list j _ _ _ _ _ _ hk;exact⟨zRL this.1,this.2⟩
  ·rw[hn j e] at hj;have:=a.list j el gr g w t xs hj;exact⟨zRL this.1,this.2⟩
theorem fO {h:SH}(a:OkH P h):Keep h (h.del k)∧OkH P (h.del k):=by
 have hl:∀ j ob,slk j (h.del k).l=some ob->slk j h.l=some ob:=fun j ob hj=>by
  by_cases e:j=k
  ·subst e;rw[show slk j (h.del j).l=none from qMQ j _] at hj;cases hj
  ·rwa [show slk j (h.del k).l=slk j h.l from kZ e _] at hj
 have hkp:Keep h (h.del k):=⟨zP0 _,fun j ob hj _=>hl j ob hj,fun j el gr g w t xs hj _=>⟨w,xs,hl _ _ hj,rfl⟩⟩
 exact⟨hkp,⟨fun j ob hj=>a.ver j ob (hl j ob hj),fun j el w l hj=>qI hkp (a.cells j el w l (hl _ _ hj)),fun j el gr g w t xs hj=>a.list j el gr g w t xs (hl _ _ hj)⟩⟩
def GV (Γ:Option Type):Type:=match Γ with
 | none=>Unit
 | some γ=>γ
def GS (Γ:Option Type)(S:Type):Type:=match Γ with
 | none=>S
 | some γ=>γ×S
def gj:{Γ:Option Type}->{S:Type}->GV Γ->S->GS Γ S
 | none,_,_,s=>s
 | some _,_,g,s=>(g,s)
def g1:{Γ:Option Type}->{S:Type}->GS Γ S->GV Γ
 | none,_,_=>()
 | some _,_,p=>p.1
def g2:{Γ:Option Type}->{S:Type}->GS Γ S->S
 | none,_,s=>s
 | some _,_,p=>p.2
theorem q5T {Γ:Option Type}{S:Type}{g:GV Γ}{s:S}:g1 (gj g s)=g:=by cases Γ <;> rfl
theorem q2W {Γ:Option Type}{S:Type}{g:GV Γ}{s:S}:g2 (gj g s)=s:=by cases Γ <;> rfl
structure Ent where
 as:List Ty
 rs:List Ty
 F:TyL as->Option (TyL rs)
abbrev zX:=List (FuncId×Ent)
def slT (g:FuncId):zX->Option Ent
 | []=>none
 | (k,e)::l=>cond (Nat.beq g k) (some e) (slT g l)
structure Sh where
 d:List Nat
 o:List Nat
 s:List (Nat×Nat)
 v:List (Nat×TypeId)
 ex:List Nat
 b:List (Nat×List (Option Nat)):=[]
 bv:List (Nat×Nat×TypeId×Nat):=[]
structure Ab where
 A:List Ty->Type
 f:∀ ts,TyL ts->A ts
def Ab.id:Ab:=⟨fun ts=>TyL ts,fun _ s=>s⟩
structure zJB where
 d:List Nat
 os:List (Nat×Bool)
 s:List (Nat×Nat)
 b:List (Nat×List (Option Nat))
 ts:List Ty
def zJB.sh (j:zJB):Sh:=⟨j.d,j.os.map (·.1),j.s,[],[],j.b,[]⟩
structure An where
 fz:List (Nat×List (Nat×TypeId))
 lp:List (Nat×Sh)
 rg:List (Nat×Sh):=[]
 ab:List (Nat×Ab):=[]
 jn:List (Nat×zJB):=[]
def lkA.{u}{α:Type u}(i:Nat):List (Nat×α)->Option α
 | []=>none
 | (j,x)::l=>cond (Nat.beq i j) (some x) (lkA i l)
structure zG6 where
 as:List Ty
 ys:List Ty
 yt:List TypeId
 F:TyL as->(γ:Type)->(γ->TyL ys->Option (γ×Bool))->γ->Option γ
def slI (g:FuncId):List (FuncId×zG6)->Option zG6
 | []=>none
 | (k,e)::l=>cond (Nat.beq g k) (some e) (slI g l)
structure YI (Γ:Type) where
 ys:List Ty
 yt:List TypeId
 stp:Γ->TyL ys->Option (Γ×Bool)
def yi0:YI Unit:=⟨[],[],fun _ _=>none⟩
abbrev CIT:Type 1:=(R:Type)->Nm->FuncId->List SV->SH->(SV->SH->zGM R)->zGM R
end Go.Sv
namespace Go.Sv
open Go.Idl
variable {a b env l:List SV}{el t:TypeId}{ik k:IntKind}{j n off w w':Nat}{v x:SV}{xs ys:List Int}
noncomputable section
variable [Gc]
variable [Yl]
variable {P:Program}{h:SH}{R:Type}{r:R}
def zAI:Value->SV
 | .agg cs=>cond (jL okC cs.toList) (.agg (jA .c cs.toList)) .unk
 | .tuple cs=>cond (jL okC cs.toList) (.tup (jA .c cs.toList)) .unk
 | v=>cond (okC v) (.c v) .unk
def kD (env:List SV):Operand->SV
 | .tmp t=>(zG env t).getD .unk
 | .const v=>zAI v
 | .global _=>.unk
 | .func g=>.c (.func (.func g) #[] #[])
theorem zDM:∀ (l:List Value),qB (jA .c l)=jA fvv l
 | []=>by simp[jA,qB]
 | v::l=>by
   show qB (.c v::jA .c l)=fvv v::jA fvv l;simp[qB,zDM l,SV.enc]
omit [Yl] in
theorem zDQ:∀ (l:List Value),okL h (jA .c l)
 | []=>by simp[jA,okL]
 | v::l=>by
   show okL h (.c v::jA .c l);simp[okL,zDQ l,SV.ok]
theorem q0K (v:Value):ofC v=(zAI v).enc:=by
 cases v with
 | agg cs =>
   show cond _ _ _=(cond (jL okC cs.toList) (SV.agg (jA .c cs.toList)) SV.unk).enc;cases jL okC cs.toList
   ·simp[SV.enc]
   ·simp[SV.enc,zDM]
 | tuple cs =>
   show cond _ _ _=(cond (jL okC cs.toList) (SV.tup (jA .c cs.toList)) SV.unk).enc;cases jL okC cs.toList
   ·simp[SV.enc]
   ·simp[SV.enc,zDM]
 | _ =>
   simp only[ofC,q65,zAI];cases okC _ <;> simp[SV.enc]
omit [Yl] in
theorem q8H (v:Value):(zAI v).ok h:=by
 cases v with
 | agg cs =>
   show (cond (jL okC cs.toList) (.agg (jA .c cs.toList)) .unk:SV).ok h;cases jL okC cs.toList
   ·simp[SV.ok]
   ·simp[SV.ok,zDQ]
 | tuple cs =>
   show (cond (jL okC cs.toList) (.tup (jA .c cs.toList)) .unk:SV).ok h;cases jL okC cs.toList
   ·simp[SV.ok]
   ·simp[SV.ok,zDQ]
 | _ =>
   simp only[zAI];cases okC _ <;> simp[SV.ok]
theorem qV (env:List SV)(t:Nat):zG (qB env) t=(zG env t).map SV.enc:=by
 rw[qF,qF,zD,zQD]
omit [Yl] in
theorem mZ {t:Nat}(ho:okL h env)(hx:zG env t=some x):x.ok h:=by
 rw[qF] at hx;exact zI.1 ho x (zQ7 hx)
theorem qO (env:List SV)(x:Operand):qJ (qB env) x=(kD env x).enc:=by
 cases x with
 | tmp t =>
   show (zG (qB env) t).getD .unk=((zG env t).getD .unk).enc;rw[qV];cases zG env t <;> simp[SV.enc]
 | const v=>exact q0K v
 | global g=>simp[qJ,kD,SV.enc]
 | func g=>simp[qJ,kD,SV.enc]
omit [Yl] in
theorem nO (ho:okL h env)(x:Operand):(kD env x).ok h:=by
 cases x with
 | tmp t =>
   show ((zG env t).getD .unk).ok h
   cases hx:zG env t with
   | none=>simp[SV.ok]
   | some y=>exact mZ ho hx
 | const v=>exact q8H v
 | global g=>simp[kD,SV.ok]
 | func g=>simp[kD,SV.ok]
def asI:SV->Option (IntKind×Int)
 | .d (.int k) x=>some (k,x)
 | .c (.int k x)=>some (k,x)
 | _=>none
def asB:SV->Option Bool
 | .d .bool x=>some x
 | .c (.bool x)=>some x
 | _=>none
def asS:SV->Option ByteArray
 | .d .str x=>some x
 | .c (.string x)=>some x
 | _=>none
theorem yC {x:Int}(e:asI v=some (k,x)):v.enc=fvv (.int k x):=by
 unfold asI at e;split at e
 ·cases e;simp[SV.enc,Ty.fv,fvv]
 ·cases e;simp[SV.enc]
 ·cases e
theorem rX {x:Bool}(e:asB v=some x):v.enc=fvv (.bool x):=by
 unfold asB at e;split at e
 ·cases e;simp[SV.enc,Ty.fv,fvv]
 ·cases e;simp[SV.enc]
 ·cases e
theorem fD {x:ByteArray}(e:asS v=some x):v.enc=fvv (.string x):=by
 unfold asS at e;split at e
 ·cases e;simp[SV.enc,Ty.fv,fvv]
 ·cases e;simp[SV.enc]
 ·cases e
def Ty.svs:(t:Ty)->t.sem->List SV
 | .int k,x=>[.d (.int k) x]
 | .bool,x=>[.d .bool x]
 | .str,x=>[.d .str x]
 | .unit,_=>[]
 | .list el t,x=>[.d (.list el t) x]
 | .pair a b,x=>a.svs x.1++b.svs x.2
 | .raw,x=>[.d .raw x]
 | .ol el k,x=>[.d (.ol el k) x]
 | .nif,x=>[.d .nif x]
theorem dF (a b:List SV):qB (a++b)=qB a++qB b:=by simp[zD]
theorem aA:∀ (t:Ty) (x:t.sem),qB (t.svs x)=(t.cells x).map .f
 | .int k,x=>by simp[Ty.svs,Ty.cells,qB,SV.enc,Ty.fv]
 | .bool,x=>by simp[Ty.svs,Ty.cells,qB,SV.enc,Ty.fv]
 | .str,x=>by simp[Ty.svs,Ty.cells,qB,SV.enc,Ty.fv]
 | .unit,x=>by simp[Ty.svs,Ty.cells,qB]
 | .list el t,x=>by simp[Ty.svs,Ty.cells,qB,SV.enc,Ty.fv]
 | .raw,x=>by simp[Ty.svs,Ty.cells,qB,SV.enc,Ty.fv]
 | .ol el k,x=>by simp[Ty.svs,Ty.cells,qB,SV.enc,Ty.fv]
 | .nif,x=>by simp[Ty.svs,Ty.cells,qB,SV.enc,Ty.fv]
 | .pair a b,x=>by
   show qB (a.svs x.1++b.svs x.2)=(a.cells x.1++b.cells x.2).map .f;rw[dF,aA a,aA b,zRE]
omit [Yl] in
theorem fU (x:okL h a)(y:okL h b):okL h (a++b):=zI.2 fun z hz=>by
 rcases zQ8.1 hz with q | q
 ·exact zI.1 x z q
 ·exact zI.1 y z q
omit [Yl] in
theorem qEY:∀ (t:Ty) (x:t.sem),okL h (t.svs x)
 | .int k,x=>by simp[Ty.svs,okL,SV.ok]
 | .bool,x=>by simp[Ty.svs,okL,SV.ok]
 | .str,x=>by simp[Ty.svs,okL,SV.ok]
 | .unit,x=>by simp[Ty.svs,okL]
 | .list el t,x=>by simp[Ty.svs,okL,SV.ok]
 | .raw,x=>by simp[Ty.svs,okL,SV.ok]
 | .ol el k,x=>by simp[Ty.svs,okL,SV.ok]
 | .nif,x=>by simp[Ty.svs,okL,SV.ok]
 | .pair a b,x=>fU (qEY a x.1) (qEY b x.2)
def q6D (k:IntKind)(v:SV):Option Int:=match asI v with
 | some (k',x)=>cond (decide (k'=k)) (some x) none
 | none=>none
def zD9 (el:TypeId)(t:Ty):SV->Option (List t.sem)
 | .d (.list el' t') xs=>if e:t'=t then cond (Nat.beq el' el) (some (e ▸ xs)) none else none
 | _=>none
def asR:SV->Option (List (Value×Value))
 | .d .raw x=>some x
 | _=>none
def q70 (el:TypeId)(k:IntKind):SV->Option (List Int)
 | .d (.ol el' k') xs=>cond (Nat.beq el' el&&decide (k'=k)) (some xs) none
 | .c (.slice none 0 0)=>some []
 | _=>none
def q8E:SV->Option Unit
 | .d .nif _=>some ()
 | .c .nilIface=>some ()
 | _=>none
def Ty.zK6:(t:Ty)->SV->Option t.sem
 | .int k,v=>q6D k v
 | .bool,v=>asB v
 | .str,v=>asS v
 | .list el t,v=>zD9 el t v
 | .unit,_=>none
 | .pair _ _,_=>none
 | .raw,v=>asR v
 | .ol el k,v=>q70 el k v
 | .nif,v=>q8E v
theorem nV {x:Int}(e:q6D k v=some x):v.enc=fvv (.int k x):=by
 unfold q6D at e;split at e
 ·rename_i k' x' hx
  cases hk:decide (k'=k) with
  | false=>rw[hk] at e;cases e
  | true =>
    rw[hk] at e;cases e;have:k'=k:=by simpa using hk
    subst this;exact yC hx
 ·cases e
omit [Yl] in
theorem q2I {t:Ty}{x:List t.sem}(e:zD9 el t v=some x):v=.d (.list el t) x:=by
 unfold zD9 at e;split at e
 ·rename_i el' t' xs;split at e
  ·rename_i ht;subst ht
   cases hk:Nat.beq el' el with
   | false=>rw[hk] at e;cases e
   | true =>
     rw[hk] at e;cases e;have:el'=el:=zPZ hk;subst this;rfl
  ·cases e
 ·cases e
theorem qUA {x:List Int}(e:q70 el k v=some x):v.enc=.f (fvo el k x):=by
 unfold q70 at e;split at e
 ·rename_i el' k' xs
  cases hk:(Nat.beq el' el&&decide (k'=k)) with
  | false=>rw[hk] at e;cases e
  | true =>
    rw[hk] at e;cases e;rw[zPY] at hk;have h1:el'=el:=zPZ hk.1;have h2:k'=k:=by simpa using hk.2
    subst h1 h2;simp[SV.enc,Ty.fv]
 ·cases e;simp[SV.enc,fvo,fvv]
 ·cases e
theorem qAQ:∀ {t:Ty} {v:SV} {x:t.sem},t.zK6 v=some x->v.enc=.f (t.fv x)∧t.one=true
 | .int k,v,x,e=>⟨nV e,rfl⟩
 | .bool,v,x,e=>⟨rX e,rfl⟩
 | .str,v,x,e=>⟨fD e,rfl⟩
 | .list el t,v,x,e=>⟨by rw[q2I e];simp[SV.enc],rfl⟩
 | .ol el k,v,x,e=>⟨qUA e,rfl⟩
 | .nif,v,x,e=>by
   have e:q8E v=some x:=e;refine⟨?_,rfl⟩;unfold q8E at e;split at e
   ·simp[SV.enc,Ty.fv]
   ·simp[SV.enc,Ty.fv,fvv]
   ·cases e
 | .raw,v,x,e=>by
   have e:asR v=some x:=e;refine⟨?_,rfl⟩;unfold asR at e;split at e
   ·cases e;simp[SV.enc]
   ·cases e
 | .unit,v,x,e=>by cases e
 | .pair a b,v,x,e=>by cases e
def q0H (t:Ty):List SV->Option (t.sem×List SV)
 | v::l=>match t.zK6 v with
   | some x=>some (x,l)
   | none=>none
 | []=>none
def Ty.zJQ:(t:Ty)->List SV->Option (t.sem×List SV)
 | .int k,l=>q0H (.int k) l
 | .bool,l=>q0H .bool l
 | .str,l=>q0H .str l
 | .raw,l=>q0H .raw l
 | .ol el k,l=>q0H (.ol el k) l
 | .nif,l=>q0H .nif l
 | .list el t,l=>q0H (.list el t) l
 | .unit,l=>some ((),l)
 | .pair a b,l=>match a.zJQ l with
   | some (x,l1)=>(match b.zJQ l1 with
     | some (y,l2)=>some ((x,y),l2)
     | none=>none)
   | none=>none
theorem gX {t:Ty}{l':List SV}{x:t.sem}(e:q0H t l=some (x,l')):qB l=(t.cells x).map .f++qB l':=by
 cases l with
 | nil=>cases e
 | cons v l =>
   unfold q0H at e;simp only at e;split at e
   ·rename_i y hy;cases e;obtain⟨h1,h2⟩:=qAQ hy;rw[Ty.cells_one h2];simp[qB,h1]
   ·cases e
theorem qAI:∀ {t:Ty} {l l':List SV} {x:t.sem},t.zJQ l=some (x,l')->qB l=(t.cells x).map .f++qB l'
 | .int k,l,l',x,e=>gX e
 | .bool,l,l',x,e=>gX e
 | .str,l,l',x,e=>gX e
 | .raw,l,l',x,e=>gX e
 | .ol _ _,l,l',x,e=>gX e
 | .nif,l,l',x,e=>gX e
 | .list el t,l,l',x,e=>gX e
 | .unit,l,l',x,e=>by cases e;simp[Ty.cells]
 | .pair a b,l,l',x,e=>by
   unfold Ty.zJQ at e;split at e
   ·rename_i x1 l1 h1;split at e
    ·rename_i y l2 h2;cases e;show qB l=(a.cells x1++b.cells y).map .f++qB l';rw[qAI h1,qAI h2,zRE,zQ0]
    ·cases e
   ·cases e
def Ty.zJC (t:Ty)(l:List SV):Option t.sem:=match t.zJQ l with
 | some (x,[])=>some x
 | _=>none
theorem pI {t:Ty}{x:t.sem}(e:t.zJC l=some x):qB l=(t.cells x).map .f:=by
 unfold Ty.zJC at e;split at e
 ·rename_i y hy;cases e;rw[qAI hy];simp[qB]
 ·cases e
def qF9 (P:Program)(t:TypeId)(l:List SV)(off:Nat):Option SV:=match qMK P t with
 | some true=>(match szT P t with
   | some n=>cond (Nat.ble (off+n) l.length) (some (.agg ((l.drop off).take n))) none
   | none=>none)
 | some false=>zG l off
 | none=>none
omit [Yl] in
theorem qNB {b:List SV}(x:okL h a)(hs:∀ z∈b,z∈a):okL h b:=zI.2 fun z hz=>zI.1 x z (hs z hz)
theorem qGD (e:qF9 P t l off=some v):aQ P t (qB l) off=some v.enc∧(okL h l->v.ok h):=by
 unfold qF9 at e;unfold aQ;split at e
 ·rename_i ha;rw[ha];simp only;split at e
  ·rename_i n hn;rw[hn];simp only
   cases hc:Nat.ble (off+n) l.length with
   | false=>rw[hc] at e;cases e
   | true =>
     rw[hc] at e;cases e;refine⟨by rw[zD,zP5,hc];simp[SV.enc,zD,zSD,zR6],fun ho=>?_⟩;simp only[SV.ok];exact qNB ho fun z hz=>zSZ (zSL hz)
  ·cases e
 ·rename_i ha;rw[ha];simp only;rw[qV,e];exact⟨rfl,fun ho=>mZ ho e⟩
 ·cases e
theorem qDM {t':Ty}{xs:List t'.sem}{x:t'.sem}(hx:xs[j]?=some x)(e:qF9 P t (t'.svs x) off=some v) :
 aQ P t ((xs.flatMap t'.cells).map .f) (j*t'.w+off)=some v.enc∧qO5 P t (xs.flatMap t'.cells) (j*t'.w+off)=some v.enc∧v.ok h:=by
 have h0:=qGD (h:=h) e;refine⟨?_,?_,h0.2 (qEY t' x)⟩
 all_goals
  have h1:=h0.1;rw[aA] at h1;unfold aQ at h1
 ·unfold aQ;split at h1
  ·rename_i ha;split at h1
   ·rename_i n hn
    cases hc:Nat.ble (off+n) ((t'.cells x).map PV.f).length with
    | false=>rw[hc] at h1;cases h1
    | true =>
      rw[hc] at h1
      have hle:off+n<=t'.w:=by
       have:=zP8 hc;rw[zP5,t'.zGW] at this;exact this
      rw[show Nat.ble (j*t'.w+off+n) ((xs.flatMap t'.cells).map PV.f).length=true from zQH (by rw[zP5];exact qIB hx hle)];simp only[cond_true] at h1 ⊢;rw[<-h1,<-zSD,<-zR6,qMB hx hle,<-zSD,<-zR6]
   ·cases h1
  ·rename_i ha;rw[qF,zQD] at h1 ⊢
   have hlt:off < t'.w:=by
    rw[<-t'.zGW x]
    cases hq:(t'.cells x)[off]? with
    | none=>rw[hq] at h1;cases h1
    | some y=>exact (zP4.1 hq).1
   rw[Go.Sv.flat_get hx hlt];exact h1
  ·cases h1
 ·unfold qO5;split at h1
  ·rename_i ha;split at h1
   ·rename_i n hn
    cases hc:Nat.ble (off+n) ((t'.cells x).map PV.f).length with
    | false=>rw[hc] at h1;cases h1
    | true =>
      rw[hc] at h1
      have hle:off+n<=t'.w:=by
       have:=zP8 hc;rw[zP5,t'.zGW] at this;exact this
      rw[show Nat.ble (j*t'.w+off+n) (xs.flatMap t'.cells).length=true from zQH (qIB hx hle)];simp only[cond_true] at h1 ⊢;rw[<-h1,qMB hx hle,<-zSD,<-zR6]
   ·cases h1
  ·rename_i ha;rw[qF,zQD] at h1
   cases hq:(t'.cells x)[off]? with
   | none=>rw[hq] at h1;cases h1
   | some y =>
     rw[hq] at h1
     have hlt:off < t'.w:=by
      rw[<-t'.zGW x];exact (zP4.1 hq).1
     rw[Go.Sv.flat_get hx hlt,hq];exact h1
  ·cases h1
def zDI:List SV->Option IntKind
 | v::_=>(asI v).map Prod.fst
 | []=>none
def qBS (ik:IntKind):List SV->Option (List Int)
 | []=>some []
 | v::l=>match q6D ik v,qBS ik l with
   | some x,some xs=>some (x::xs)
   | _,_=>none
def q4N (off:Nat)(v:Int)(xs:List Int):Option (List Int):=if off < xs.length then some (xs.set off v) else none
def spread (ik:IntKind)(n:Nat)(ys:List Int):List SV:=(List.range n).map fun i=>SV.d (.int ik) (ys.getD i 0:Int)
theorem uI {ik:IntKind}:∀ {l:List SV} {xs:List Int},qBS ik l=some xs->qB l=xs.map fun x=>fvv (.int ik x)
 | [],xs,e=>by cases e;simp[qB]
 | v::l,xs,e=>by
   unfold qBS at e;split at e
   ·rename_i x ys hx hy;cases e;simp only[qB,zQG,nV hx,uI hy]
   ·cases e
theorem sU (h:ys.length=n):qB (spread ik n ys)=ys.map fun x=>fvv (.int ik x):=by
 rw[zD];unfold spread;rw[zR9];apply zRG;intro i;rw[zQD,zQD];by_cases hi:i < n
 ·rw[zUJ hi,zP2 (by omega:i < ys.length)];simp only[zQC,Function.comp,zP7];rw[zQN,zP2 (by omega:i < ys.length)];simp[SV.enc,Ty.fv,fvv]
 ·rw[zRB (by simp;omega),zRB (by omega)];rfl
theorem qJT:okL h (spread ik n ys):=zI.2 fun x hx=>by
 unfold spread at hx;obtain⟨i,_,rfl⟩:=zQR.1 hx;simp[SV.ok]
def zDT (P:Program)(t:TypeId)(off w:Nat)(el:TypeId)(ik:IntKind)(xs:List Int)(K:SV->zGM R):zGM R:=cond (spec P el) .fail (match qMK P t,szT P t with
 | some false,_=>.ite (Nat.beq w (List.length xs)) (.bind (xs[off]?) fun x=>K (.d (.int ik) (x:Int))) .fail
 | some true,some n=>cond (Nat.beq off 0&&Nat.beq n w) (.ite (Nat.beq w (List.length xs)) (K (.agg (spread ik w xs))) .fail) .fail
 | _,_=>.fail)
theorem qZ1 {k:Nat}{K:SV->zGM R}(hk:qA k (qC h.l)=some (SO.spc w' (.arr el ik xs)).enc)(e:(zDT P t off w el ik xs K).run=some r):∃ v,fJ P t (.ref k w off) (qC h.l)=some v.enc∧v.ok h∧(K v).run=some r:=by
 unfold zDT at e
 cases hsp:spec P el with
 | true=>rw[hsp] at e;cases e
 | false =>
 rw[hsp] at e;simp only[cond_false] at e
 have pre:fJ P t (.ref k w off) (qC h.l)=cond (Nat.beq w xs.length) (aQ P t (xs.map fun x=>fvv (.int ik x)) off) none:=by
  simp only[fJ,hk];show cond (spec P el) none (cond (Nat.beq w (xs.map fun x=>fvv (.int ik x)).length) _ none)=_;rw[hsp,zP5];rfl
 rw[pre];split at e
 ·rename_i ha
  rcases run_ite e with ⟨z,e1⟩ | ⟨_,e1⟩
  ·obtain⟨x,hx,e2⟩:=run_bind e1;refine⟨_,?_,by simp[SV.ok],e2⟩;rw[z];simp only[cond_true,aQ,ha];rw[qF,zQD,hx];simp[SV.enc,Ty.fv,fvv]
  ·cases e1
 ·rename_i n ha hn;obtain⟨c,e0⟩:=qE e;rw[zPY] at c;have h0:=zPZ c.1;have h1:=zPZ c.2;subst h0 h1
  rcases run_ite e0 with ⟨z,e1⟩ | ⟨_,e1⟩
  ·refine⟨_,?_,by simp only[SV.ok];exact qJT,e1⟩;have hl:=zPZ z;rw[z];simp only[cond_true,aQ,ha,hn];rw[show Nat.ble (0+n) (xs.map fun x=>fvv (.int ik x)).length=true from zQH (by rw[zP5];omega)];simp only[cond_true,zRI,SV.enc];rw[sU hl.symm,zQT (by rw[zP5];omega)]
  ·cases e1
 ·cases e
def q9U (P:Program)(t:TypeId)(a:SV)(h:SH)(K:SV->zGM R):zGM R:=match a with
 | .ref k off w=>(match slk k h.l with
   | some (.cells el _ l)=>(match qF9 P t l off with
     | some v=>cond (!(spec P el)&&Nat.beq w l.length) (K v) .fail
     | none=>.fail)
   | some (.spc _ (.arr el ik xs))=>zDT P t off w el ik xs K
   | _=>.fail)
 | .elt k g n w j off=>(match slk k h.l with
   | some (.list _ _ g' _ t' xs)=>cond (Nat.beq g g'&&Nat.beq w t'.w) (.bind (xs[j]?) fun x=>match qF9 P t (t'.svs x) off with
     | some v=>K v
     | none=>.fail) .fail
   | _=>.fail)
 | .lp t' xs j off=>.bind (xs[j]?) fun x=>match qF9 P t (t'.svs x) off with
   | some v=>K v
   | none=>.fail
 | .rfx k off w=>(match slk k h.l with
   | some (.cells el _ l)=>(match zDI l with
     | some ik=>(match qBS ik l,qMK P t with
       | some xs,some false=>cond (!(spec P el)&&Nat.beq w l.length) (.bind (xs[off]?) fun x=>K (.d (.int ik) (x:Int))) .fail
       | _,_=>.fail)
     | none=>.fail)
   | some (.spc _ (.arr el ik xs))=>zDT P t off w el ik xs K
   | _=>.fail)
 | .etx k g n w j off=>(match slk k h.l with
   | some (.list _ _ g' _ t' xs)=>cond (Nat.beq g g'&&Nat.beq w t'.w) (.bind (xs[j]?) fun x=>match zDI (t'.svs x) with
     | some ik=>(match qBS ik (t'.svs x),qMK P t with
       | some ys,some false=>.bind (ys[off]?) fun z=>K (.d (.int ik) (z:Int))
       | _,_=>.fail)
     | none=>.fail) .fail
   | _=>.fail)
 | _=>.fail
theorem qQ (l:List SV):(qB l).length=l.length:=by rw[zD,zP5]
theorem zK {k:Nat}{ob:SO}{l:List (Nat×SO)}(e:slk k l=some ob):qA k (qC l)=some ob.enc:=by rw[vQ,e];rfl
theorem qU {gr:Bool}{g:Nat}{t:Ty}{xs:List t.sem}:(SO.list el gr g w t xs).enc.cs.length=xs.length*t.w:=by
 show ((xs.flatMap t.cells).map PV.f).length=_;rw[zP5,zT]
theorem q2Z {a:SV}{K:SV->zGM R}(ho:OkH P h)(ha:a.ok h)(e:(q9U P t a h K).run=some r):∃ v,fJ P t a.enc (qC h.l)=some v.enc∧v.ok h∧(K v).run=some r:=by
 unfold q9U at e;split at e
 ·rename_i k off w;split at e
  ·rename_i el w' l hk;split at e
   ·rename_i v hv;obtain⟨h1,h2⟩:=qE e;rw[zPY,zQX] at h1;obtain⟨hsp,h1⟩:=h1;obtain⟨h3,h4⟩:=qGD (h:=h) hv;refine⟨v,?_,h4 (ho.cells _ _ _ _ hk),h2⟩;simp only[SV.enc,fJ,zK hk];show cond (spec P el) none (cond (Nat.beq w (qB l).length) (aQ P t (qB l) off) none)=_;rw[qQ,h1,hsp];exact h3
   ·cases e
  ·rename_i w' el ik xs hk;obtain⟨v,h1,h2,h3⟩:=qZ1 (zK hk) e;exact⟨v,by simp only[SV.enc];exact h1,h2,h3⟩
  ·cases e
 ·rename_i k g n w j off;split at e
  ·rename_i el gr g' w' t' xs hk;obtain⟨h1,h2⟩:=qE e;rw[zPY] at h1;have hg:g=g':=zPZ h1.1;have hw:w=t'.w:=zPZ h1.2;subst hg hw;obtain⟨x,hx,h3⟩:=run_bind h2;split at h3
   ·rename_i v hv;have h5:=qDM (h:=h) hx hv;refine⟨v,?_,h5.2.2,h3⟩;simp only[SV.ok] at ha;have hn:n=xs.length:=ha.2 _ _ _ _ _ hk;simp only[SV.enc,fJ,zK hk];rw[qU,hn,show spec P (SO.list el gr g w' t' xs).enc.el=false from kF (ho.list _ _ _ _ _ _ _ hk).2.1];simp only[aJ,cond_true,cond_false];exact h5.1
   ·cases h3
  ·cases e
 ·rename_i t' xs j off;obtain⟨x,hx,h3⟩:=run_bind e;split at h3
  ·rename_i v hv;have h5:=qDM (h:=h) hx hv;exact⟨v,by simp only[SV.enc,fJ];exact h5.2.1,h5.2.2,h3⟩
  ·cases h3
 ·rename_i k off w;split at e
  ·rename_i el w' l hk;split at e
   ·rename_i ik hik;split at e
    ·rename_i xs hxs hag;obtain⟨h1,h2⟩:=qE e;rw[zPY,zQX] at h1;obtain⟨hsp,h1⟩:=h1;obtain⟨x,hx,h3⟩:=run_bind h2;refine⟨_,?_,by simp[SV.ok],h3⟩;simp only[SV.enc,fJ,zK hk];show cond (spec P el) none (cond (Nat.beq w (qB l).length) (aQ P t (qB l) off) none)=_;rw[qQ,h1,hsp];simp only[cond_true,cond_false];unfold aQ;rw[hag];show zG (qB l) off=_;rw[qF,uI hxs,zQD,hx];simp[Ty.fv,fvv]
    ·cases e
   ·cases e
  ·rename_i w' el ik xs hk;obtain⟨v,h1,h2,h3⟩:=qZ1 (zK hk) e;exact⟨v,by simp only[SV.enc];exact h1,h2,h3⟩
  ·cases e
 ·rename_i k g n w j off;split at e
  ·rename_i el gr g' w' t' xs hk;obtain⟨h1,h2⟩:=qE e;rw[zPY] at h1;have hg:g=g':=zPZ h1.1;have hw:w=t'.w:=zPZ h1.2;subst hg hw;obtain⟨x,hx,h3⟩:=run_bind h2;split at h3
   ·rename_i ik hik;split at h3
    ·rename_i ys hys hag;obtain⟨z,hz,h4⟩:=run_bind h3;refine⟨_,?_,by simp[SV.ok],h4⟩;have hn1:zG (qB (t'.svs x)) off=some (fvv (.int ik z)):=by rw[qF,uI hys,zQD,hz];rfl
     rw[qV] at hn1;obtain⟨v0,hv0,hv1⟩:=zP9.1 hn1;have hsp:qF9 P t (t'.svs x) off=some v0:=by unfold qF9;rw[hag];exact hv0
     have h5:=qDM (h:=h) hx hsp;simp only[SV.ok] at ha;have hn:n=xs.length:=ha.2 _ _ _ _ _ hk;simp only[SV.enc,fJ,zK hk];rw[qU,hn,show spec P (SO.list el gr g w' t' xs).enc.el=false from kF (ho.list _ _ _ _ _ _ _ hk).2.1];simp only[aJ,cond_true,cond_false];have h6:=h5.1;rw[hv1] at h6;rw[show (SO.list el gr g w' t' xs).enc.cs=(xs.flatMap t'.cells).map .f from rfl,h6];simp[Ty.fv,fvv]
    ·cases h3
   ·cases h3
  ·cases e
 ·cases e
def Post (P:Program)(h h':SH)(v:SV):Prop:=Keep h h'∧OkH P h'∧v.ok h'
def yN:SV->List SV
 | .agg l=>l
 | v=>[v]
theorem dR (v:SV):zC v.enc=qB (yN v):=by
 cases v <;> simp[SV.enc,zC,yN,qB,fvv];rename_i b _ _ _;cases b <;> rfl
omit [Yl] in
theorem qC3 (hv:v.ok h):okL h (yN v):=by
 cases v <;> simp only[yN,okL,SV.ok,and_true] at hv ⊢ <;> exact hv
def qB3 (l:List SV)(i:Nat)(vs:List SV):List SV:=l.take i++vs++l.drop (i+vs.length)
theorem qBK (l vs:List SV)(i:Nat):qB (qB3 l i vs)=yI (qB l) i (qB vs):=by
 simp[qB3,yI,zD,zR6,zSD]
omit [Yl] in
theorem qRA {vs:List SV}{i:Nat}(a:okL h l)(b:okL h vs):okL h (qB3 l i vs) :=
 fU (fU (qNB a fun z hz=>zSL hz) b) (qNB a fun z hz=>zSZ hz)
omit [Yl] in
theorem q2M {α:Type}(A B C:List α)(c:List α)(hle:off+c.length<=B.length) :
 (A++B++C).take (A.length+off)++c++(A++B++C).drop (A.length+off+c.length)=A++(B.take off++c++B.drop (off+c.length))++C:=by
 rw[zQ0 A B C,List.take_append,zQT (by omega),zTW,List.take_append_of_le_length (by omega)];rw[zRV,List.drop_append,zT1 (by omega),zTW,List.nil_append,List.drop_append_of_le_length (by omega)];simp[zQ0]
omit [Yl] in
theorem qEM {t:Ty}{xs:List t.sem}{x:t.sem}(hx:xs[j]?=some x)(y:t.sem):(xs.set j y).flatMap t.cells=(xs.take j).flatMap t.cells++t.cells y++(xs.drop (j+1)).flatMap t.cells:=by
 have hl:=(zP4.1 hx).1;rw[zSB,if_pos hl,zS6,zQS,zQ0]
omit [Yl] in
theorem qFD {t:Ty}{xs:List t.sem}{x y:t.sem}(hx:xs[j]?=some x){c:List PV}(hle:off+c.length<=t.w)(hy:yI ((t.cells x).map .f) off c=(t.cells y).map .f) :
 yI ((xs.flatMap t.cells).map .f) (j*t.w+off) c=((xs.set j y).flatMap t.cells).map .f:=by
 have hl:=(zP4.1 hx).1
 have e0:xs.set j x=xs:=by
  apply zRG;intro i;rw[zQW];by_cases e:j=i
  ·subst e;rw[if_pos rfl,if_pos hl,hx]
  ·rw[if_neg e]
 have e1:=qEM hx x;rw[e0] at e1;rw[qEM hx y,e1];simp only[zRE];unfold yI;have hA:(((xs.take j).flatMap t.cells).map PV.f).length=j*t.w:=by rw[zP5,zT,zQ3,zRO (by omega)]
 rw[<-hA,q2M _ _ _ _ (by rw[zP5,t.zGW];exact hle)];unfold yI at hy;rw[hy]
def zDO (P:Program)(n off w:Nat)(el:TypeId)(ik:IntKind)(xs:List Int)(k:Nat)(x:SV)(h:SH)(K:SV->SH->zGM R):zGM R:=cond (spec P el) .fail (match x with
 | .agg l=>(match qBS ik l with
   | some ys=>cond (Nat.beq off 0&&(Nat.beq n w&&Nat.beq n (List.length l))) (.ite (Nat.beq w (List.length xs)) (K (.tup []) (h.put k fun u=>.spc u (.arr el ik ys))) .fail) .fail
   | none=>.fail)
 | x=>(match q6D ik x with
   | some v=>cond (Nat.beq n 1) (.ite (Nat.beq w (List.length xs)) (.bind (q4N off v xs) fun ys=>K (.tup []) (h.put k fun u=>.spc u (.arr el ik ys))) .fail) .fail
   | none=>.fail))
theorem qL1 {ik:IntKind}:∀ {l:List SV} {xs:List Int},qBS ik l=some xs->xs.length=l.length
 | [],xs,e=>by cases e;rfl
 | v::l,xs,e=>by
   unfold qBS at e;split at e
   ·rename_i x ys hx hy;cases e;simp[qL1 hy]
   ·cases e
theorem qYB {k:Nat}{K:SV->SH->zGM R}(ho:OkH P h)(hn:szT P t=some n)(hk:slk k h.l=some (.spc w' (.arr el ik xs)))(e:(zDO P n off w el ik xs k x h K).run=some r) :
 ∃ h',jS P t (.ref k w off) x.enc (qC h.l)=some (qC h'.l)∧Keep h h'∧OkH P h'∧(K (.tup []) h').run=some r:=by
 unfold zDO at e
 cases hsp:spec P el with
 | true=>rw[hsp] at e;cases e
 | false =>
 rw[hsp] at e;simp only[cond_false] at e;have hp:∀ ys:List Int,Keep h (h.put k fun u=>.spc u (.arr el ik ys))∧OkH P (h.put k fun u=>.spc u (.arr el ik ys)):=fun ys=>vV (f:=fun u=>.spc u (.arr el ik ys)) ho hk rfl
 have pre:jS P t (.ref k w off) x.enc (qC h.l)=cond (Nat.beq w xs.length&&(Nat.beq n (zC x.enc).length&&(Nat.ble (off+n) xs.length&&(pnt x.enc&&(zC x.enc).all aN)))) (some (xO k ⟨el,false,yI (xs.map fun x=>fvv (.int ik x)) off (zC x.enc)⟩ (qC h.l))) none:=by
  simp only[jS,zK hk,hn];show cond (spec P el) none (cond (Nat.beq w (xs.map fun x=>fvv (.int ik x)).length&&(Nat.beq n (zC x.enc).length&&(Nat.ble (off+n) (xs.map fun x=>fvv (.int ik x)).length&&(pnt x.enc&&(zC x.enc).all aN)))) _ none)=_;rw[hsp,zP5];rfl
 have fin:∀ ys:List Int,qC (h.put k fun u=>.spc u (.arr el ik ys)).l=xO k ⟨el,false,ys.map fun x=>fvv (.int ik x)⟩ (qC h.l):=fun ys=>xY k _ _
 split at e
 ·rename_i l;split at e
  ·rename_i ys hys;obtain⟨c,e0⟩:=qE e;simp only[zPY] at c;have h0:=zPZ c.1;have h1:=zPZ c.2.1;have h2:=zPZ c.2.2;subst h0
   rcases run_ite e0 with ⟨z,e1⟩ | ⟨_,e1⟩
   ·have hl:=zPZ z;refine⟨_,?_,(hp ys).1,(hp ys).2,e1⟩;rw[pre,fin ys];have hle:=qL1 hys;simp only[SV.enc,zC,uI hys,zP5];rw[z,show Nat.beq n ys.length=true by rw[hle,<-h2];exact aJ _,show Nat.ble (0+n) xs.length=true from zQH (by omega),show ((ys.map fun x=>fvv (.int ik x)).all aN)=true by simp[zP1,fvv,aN]];simp only[pnt,zQU,cond_true];unfold yI;rw[List.take_zero,zT1 (by simp only[zP5];omega)];simp
   ·cases e1
  ·cases e
 ·split at e
  ·rename_i v hv;obtain⟨c,e0⟩:=qE e;have h1:=zPZ c;subst h1
   rcases run_ite e0 with ⟨z,e1⟩ | ⟨_,e1⟩
   ·obtain⟨ys,hys,e2⟩:=run_bind e1;unfold q4N at hys;split at hys
    case isFalse=>cases hys
    rename_i hlt;cases hys;refine⟨_,?_,(hp _).1,(hp _).2,e2⟩;rw[pre,fin,nV hv];rw[show Nat.ble (off+1) xs.length=true from zQH hlt,z];show some (xO k ⟨el,false,yI (xs.map fun x=>fvv (.int ik x)) off [fvv (.int ik v)]⟩ (qC h.l))=_
    have:yI (xs.map fun x=>fvv (.int ik x)) off [fvv (.int ik v)]=(xs.set off v).map fun x=>fvv (.int ik x):=by
     rw[zTT,zSB,if_pos (by rw[zP5];exact hlt)];unfold yI;simp
    rw[this]
   ·cases e1
  ·cases e
def qVQ (P:Program)(t:TypeId)(a x:SV)(h:SH)(K:SV->SH->zGM R):zGM R:=match szT P t with
 | some n=>(match a with
   | .ref k off w=>(match slk k h.l with
     | some (.cells el _ l)=>cond (!(spec P el)&&(Nat.beq w l.length&&(Nat.beq n (yN x).length&&(Nat.ble (off+n) l.length&&(pnt x.enc&&(qB (yN x)).all aN)))))
        (K (.tup []) (h.put k fun v=>.cells el v (qB3 l off (yN x)))) .fail
     | some (.spc _ (.arr el ik xs))=>zDO P n off w el ik xs k x h K
     | _=>.fail)
   | .elt k g m w j off=>(match slk k h.l with
     | some (.list el gr g' _ t' xs)=>cond (Nat.beq g g'&&(Nat.beq w t'.w&&(Nat.beq n (yN x).length&&(Nat.ble (off+n) w&&(pnt x.enc&&(qB (yN x)).all aN)))))
        (.bind (xs[j]?) fun y=>match t'.zJC (qB3 (t'.svs y) off (yN x)) with
          | some z=>K (.tup []) (h.put k fun v=>.list el gr g v t' (List.set xs j z))
          | none=>.fail) .fail
     | _=>.fail)
   | .rfx k off w=>(match slk k h.l with
     | some (.cells el _ l)=>(match zDI l with
       | some ik=>(match qBS ik l,q6D ik x with
         | some xs,some v=>cond (!(spec P el)&&(Nat.beq w l.length&&Nat.beq n 1)) (.bind (q4N off v xs) fun ys=>K (.tup []) (h.put k fun u=>.cells el u (spread ik (List.length xs) ys))) .fail
         | _,_=>.fail)
       | none=>.fail)
     | some (.spc _ (.arr el ik xs))=>zDO P n off w el ik xs k x h K
     | _=>.fail)
   | .etx k g m w j off=>(match slk k h.l with
     | some (.list el gr g' _ t' xs)=>cond (Nat.beq g g'&&(Nat.beq w t'.w&&Nat.beq n 1)) (.bind (xs[j]?) fun y=>match zDI (t'.svs y) with
       | some ik=>(match qBS ik (t'.svs y),q6D ik x with
         | some ys,some v=>.bind (q4N off v ys) fun zs=>match t'.zJC (spread ik (List.length ys) zs) with
           | some z=>K (.tup []) (h.put k fun v=>.list el gr g v t' (List.set xs j z))
           | none=>.fail
         | _,_=>.fail)
       | none=>.fail) .fail
     | _=>.fail)
   | _=>.fail)
 | none=>.fail
theorem qWS {a:SV}{K:SV->SH->zGM R}(ho:OkH P h)(ha:a.ok h)(hx:x.ok h)(e:(qVQ P t a x h K).run=some r) :
 ∃ h',jS P t a.enc x.enc (qC h.l)=some (qC h'.l)∧Keep h h'∧OkH P h'∧(K (.tup []) h').run=some r:=by
 unfold qVQ at e;split at e
 ·rename_i n hn;split at e
  ·rename_i k off w;split at e
   ·rename_i el w' l hk;obtain⟨h1,h2⟩:=qE e;rw[zPY,zQX] at h1;obtain⟨hsp,h1⟩:=h1;have hp:=vV (f:=fun v=>.cells el v (qB3 l off (yN x))) ho hk ⟨rfl,qRA (ho.cells _ _ _ _ hk) (qC3 hx)⟩;refine⟨_,?_,hp.1,hp.2,h2⟩;simp only[SV.enc,jS,zK hk,hn];show cond (spec P el) none (cond (Nat.beq w (qB l).length&&(Nat.beq n (zC x.enc).length&&(Nat.ble (off+n) (qB l).length&&(pnt x.enc&&(zC x.enc).all aN)))) _ _)=_;rw[dR,qQ,qQ,h1,hsp];simp only[cond_true];rw[show qC (h.put k fun v=>.cells el v (qB3 l off (yN x))).l=xO k (SO.enc (.cells el h.next (qB3 l off (yN x)))) (qC h.l) from xY k _ _];show some (xO k ⟨el,false,yI (qB l) off (qB (yN x))⟩ (qC h.l))=some (xO k ⟨el,false,qB (qB3 l off (yN x))⟩ (qC h.l));rw[qBK]
   ·rename_i w' el ik xs hk;obtain⟨h',h1,h2,h3,h4⟩:=qYB (t:=t) ho hn hk e;exact⟨h',by simp only[SV.enc];exact h1,h2,h3,h4⟩
   ·cases e
  ·rename_i k g m w j off;split at e
   ·rename_i el gr g' w' t' xs hk;obtain⟨h1,h2⟩:=qE e;simp only[zPY] at h1;obtain⟨q1,q2,q3,q4,q5,q6⟩:=h1;have hg:g=g':=zPZ q1;have hw:w=t'.w:=zPZ q2;subst hg hw;obtain⟨y,hy,h3⟩:=run_bind h2;split at h3
    ·rename_i z hz;have hp:=vV (f:=fun v=>.list el gr g v t' (List.set xs j z)) ho hk ⟨_,rfl,by simp⟩;refine⟨_,?_,hp.1,hp.2,h3⟩;simp only[SV.ok] at ha;have hm:m=xs.length:=ha.2 _ _ _ _ _ hk;have hle:off+n<=t'.w:=zP8 q4;simp only[SV.enc,jS,zK hk,hn];rw[qU,hm,dR,qQ,show spec P (SO.list el gr g w' t' xs).enc.el=false from kF (ho.list _ _ _ _ _ _ _ hk).2.1]
     have hjl:j*t'.w+off+n<=xs.length*t'.w:=by
      have:=qIB hy hle
      rwa [zT] at this
     rw[q3,q5,q6,show Nat.ble (j*t'.w+off+n) (xs.length*t'.w)=true from zQH hjl];simp only[aJ,zQU,cond_true,cond_false];rw[show qC (h.put k fun v=>.list el gr g v t' (List.set xs j z)).l=xO k (SO.enc (.list el gr g h.next t' (List.set xs j z))) (qC h.l) from xY k _ _];show some (xO k ⟨el,gr,yI ((xs.flatMap t'.cells).map .f) (j*t'.w+off) (qB (yN x))⟩ (qC h.l))=some (xO k ⟨el,gr,((List.set xs j z).flatMap t'.cells).map .f⟩ (qC h.l));have hnl:n=(qB (yN x)).length:=by rw[qQ];exact zPZ q3
     rw[qFD hy (y:=z) (by rw[<-hnl];exact hle) (by rw[<-aA,<-qBK];exact pI hz)]
    ·cases h3
   ·cases e
  ·rename_i k off w;split at e
   ·rename_i el w' l hk;split at e
    ·rename_i ik hik;split at e
     ·rename_i xs v hxs hv;obtain⟨h1,h2⟩:=qE e;simp only[zPY,zQX] at h1;obtain⟨hsp,hw,hn1⟩:=h1;have hn2:=zPZ hn1;subst hn2;obtain⟨ys,hys,h3⟩:=run_bind h2;unfold q4N at hys;split at hys
      case isFalse=>cases hys
      rename_i hlt;cases hys;have hp:=vV (f:=fun u=>.cells el u (spread ik (List.length xs) (xs.set off v))) ho hk ⟨rfl,qJT⟩;refine⟨_,?_,hp.1,hp.2,h3⟩;have hel:=uI hxs;have hll:(qB l).length=xs.length:=by rw[hel,zP5]
      simp only[SV.enc,jS,zK hk,hn];rw[nV hv];show cond (spec P el) none (cond (Nat.beq w (qB l).length&&(Nat.beq 1 1&&(Nat.ble (off+1) (qB l).length&&(true&&true)))) (some (xO k ⟨el,false,yI (qB l) off [fvv (.int ik v)]⟩ (qC h.l))) none)=_;rw[hsp,show Nat.beq w (qB l).length=true by rw[qQ];exact hw,hll,show Nat.ble (off+1) xs.length=true from zQH hlt];rw[show qC (h.put k fun u=>.cells el u (spread ik (List.length xs) (xs.set off v))).l=xO k (SO.enc (.cells el h.next (spread ik (List.length xs) (xs.set off v)))) (qC h.l) from xY k _ _];show some (xO k ⟨el,false,yI (qB l) off [fvv (.int ik v)]⟩ (qC h.l))=some (xO k ⟨el,false,qB (spread ik (List.length xs) (xs.set off v))⟩ (qC h.l));rw[sU (by simp),hel]
      have:yI (xs.map fun x=>fvv (.int ik x)) off [fvv (.int ik v)]=(xs.set off v).map fun x=>fvv (.int ik x):=by
       rw[zTT,zSB,if_pos (by rw[zP5];exact hlt)];unfold yI;simp
      rw[this]
     ·cases e
    ·cases e
   ·rename_i w' el ik xs hk;obtain⟨h',h1,h2,h3,h4⟩:=qYB (t:=t) ho hn hk e;exact⟨h',by simp only[SV.enc];exact h1,h2,h3,h4⟩
   ·cases e
  ·rename_i k g m w j off;split at e
   ·rename_i el gr g' w' t' xs hk;obtain⟨h1,h2⟩:=qE e;simp only[zPY] at h1;obtain⟨q1,q2,q3⟩:=h1;have hg:g=g':=zPZ q1;have hw:w=t'.w:=zPZ q2;have hn2:=zPZ q3;subst hg hw hn2;obtain⟨y,hy,h3⟩:=run_bind h2;split at h3
    ·rename_i ik hik;split at h3
     ·rename_i ys v hys hv;obtain⟨zs,hzs,h4⟩:=run_bind h3;split at h4
      ·rename_i z hz;unfold q4N at hzs;split at hzs
       case isFalse=>cases hzs
       rename_i hlt;cases hzs;have hp:=vV (f:=fun v=>.list el gr g v t' (List.set xs j z)) ho hk ⟨_,rfl,by simp⟩;refine⟨_,?_,hp.1,hp.2,h4⟩;simp only[SV.ok] at ha;have hm:m=xs.length:=ha.2 _ _ _ _ _ hk;have hel:=uI hys
       have hcw:ys.length=t'.w:=by
        have:=congrArg List.length hel;rw[aA,zP5,zP5,t'.zGW] at this;exact this.symm
       have hle:off+1<=t'.w:=by omega
       simp only[SV.enc,jS,zK hk,hn];rw[qU,hm,nV hv,show spec P (SO.list el gr g w' t' xs).enc.el=false from kF (ho.list _ _ _ _ _ _ _ hk).2.1]
       have hjl:j*t'.w+off+1<=xs.length*t'.w:=by
        have:=qIB hy hle
        rwa [zT] at this
       rw[show Nat.ble (j*t'.w+off+1) (xs.length*t'.w)=true from zQH hjl];simp only[aJ,cond_false];show some (xO k ⟨el,gr,yI ((xs.flatMap t'.cells).map .f) (j*t'.w+off) [fvv (.int ik v)]⟩ (qC h.l))=_;rw[show qC (h.put k fun v=>.list el gr g v t' (List.set xs j z)).l=xO k (SO.enc (.list el gr g h.next t' (List.set xs j z))) (qC h.l) from xY k _ _];show _=some (xO k ⟨el,gr,((List.set xs j z).flatMap t'.cells).map .f⟩ (qC h.l));rw[qFD hy (y:=z) hle ?_];rw[<-pI hz,sU (by simp),<-aA,hel,zTT,zSB,if_pos (by rw[zP5];exact hlt)];unfold yI;simp
      ·cases h4
     ·cases h3
    ·cases h3
   ·cases e
  ·cases e
 ·cases e
end
end Go.Sv
namespace Go.Sv
open Go.Idl
noncomputable section
variable [Gc]
variable [Yl]
variable {P:Program}{h:SH}{R:Type}{r:R}
def tyL:List (Option Ty)->Option Ty
 | []=>some .unit
 | [t]=>t.map fun t=>.pair t .unit
 | [a,b]=>match a,b with
   | some a,some b=>some (.pair a b)
   | _,_=>none
 | a::l=>match a,tyL l with
   | some a,some b=>some (.pair a b)
   | _,_=>none
def zF1 (P:Program)(t:TypeId):Option Ty:=match P.underlying t with
 | some (.slice el)=>(match P.underlying el with
   | some (.int k)=>some (.ol el k)
   | _=>none)
 | _=>none
def qBV (P:Program):Nat->TypeId->Option Ty
 | 0,_=>none
 | n+1,t=>match P.underlying t with
   | some (.int k)=>some (.int k)
   | some .bool=>some .bool
   | some .string=>some .str
   | some (.slice el)=>(match qBV P n el with
     | some u=>some (.list el u)
     | none=>none)
   | some (.struct fields)=>tyL (fields.toList.map fun f=>cond (Gc.ol f.type) (zF1 P f.type) (qBV P n f.type))
   | some (.array k el)=>tyL (List.replicate k (qBV P n el))
   | some (.interface ..)=>some .nif
   | _=>none
def zcS (P:Program)(t:TypeId):Option (List SV):=match qBT P t with
 | some z=>cond (jL okC z.cells.toList) (some (jA .c z.cells.toList)) none
 | none=>none
theorem nN {t:TypeId}{l:List SV}(e:zcS P t=some l):zc P t=some (qB l)∧okL h l:=by
 unfold zcS at e;unfold zc;split at e
 ·rename_i z hz
  cases hc:jL okC z.cells.toList with
  | false=>rw[hc] at e;cases e
  | true =>
    rw[hc] at e;cases e;rw[hz];simp only[hc,cond_true];exact⟨by rw[zDM],zDQ _⟩
 ·cases e
def zDX (P:Program)(el:TypeId)(l:List SV):Option (Nat×IntKind×List Int):=match qRT P el with
 | some (m,e2)=>(match qBV P 8 e2 with
   | some (.int ik)=>(match qBS ik l with
     | some xs=>cond (Nat.beq l.length m) (some (m,ik,xs)) none
     | none=>none)
   | _=>none)
 | none=>none
theorem qPZ {el:TypeId}{l:List SV}{p:Nat×IntKind×List Int}(e:zDX P el l=some p):qB l=(p.2.2.map fun x=>fvv (.int p.2.1 x))∧l.length=p.1:=by
 unfold zDX at e;split at e
 ·split at e
  ·split at e
   ·rename_i xs hx;obtain⟨hc,e⟩:=yO e;cases e;exact⟨uI hx,zPZ hc⟩
   ·cases e
  ·cases e
 ·cases e
def qY6 (P:Program)(el:TypeId)(k:Nat)(h:SH)(K:SV->SH->zGM R):zGM R:=match zcS P el with
 | some l=>cond (spec P el) .fail (match zDX P el l with
   | some p=>K (.ref k 0 p.1) (h.new k fun v=>.spc v (.arr el p.2.1 p.2.2))
   | none=>K (.ref k 0 l.length) (h.new k fun v=>.cells el v l))
 | none=>.fail
theorem qWR {el:TypeId}{k:Nat}{K:SV->SH->zGM R}(ho:OkH P h)(e:(qY6 P el k h K).run=some r):∃ v h',mJ P el k (qC h.l)=some (v.enc,qC h'.l)∧Post P h h' v∧(K v h').run=some r:=by
 unfold qY6 at e;split at e
 ·rename_i l hl;obtain⟨h1,h2⟩:=nN (h:=h) hl;have hp:=xG (k:=k) (f:=fun v=>.cells el v l) ho ⟨rfl,h2⟩
  cases hsp:spec P el with
  | true=>rw[hsp] at e;cases e
  | false =>
  rw[hsp] at e;simp only[cond_false] at e;split at e
  ·rename_i p hpa;have hp:=xG (k:=k) (f:=fun v=>.spc v (.arr el p.2.1 p.2.2)) ho rfl;refine⟨_,_,?_,⟨hp.1,hp.2,by simp[SV.ok]⟩,e⟩;simp only[mJ,h1,qEB,SV.enc,qQ,hsp,cond_false];rw[<- (qPZ hpa).2,(qPZ hpa).1];rfl
  ·refine⟨_,_,?_,⟨hp.1,hp.2,by simp[SV.ok]⟩,e⟩;simp only[mJ,h1,qEB,SV.enc,qQ,hsp,cond_false];rfl
 ·cases e
def zFP (P:Program)(el:TypeId)(v:SV)(k:Nat)(h:SH)(K:SV->SH->zGM R):zGM R :=
 cond (!(spec P el)&&(pnt v.enc&&(qB (yN v)).all aN)) (K (.ref k 0 (yN v).length) (h.new k fun n=>.cells el n (yN v))) .fail
theorem q8F {el:TypeId}{v:SV}{k:Nat}{K:SV->SH->zGM R}(ho:OkH P h)(hv:v.ok h)(e:(zFP P el v k h K).run=some r):∃ x h',q35 P el v.enc k (qC h.l)=some (x.enc,qC h'.l)∧Post P h h' x∧(K x h').run=some r:=by
 obtain⟨h1,h2⟩:=qE e;have hp:=xG (k:=k) (f:=fun n=>.cells el n (yN v)) ho ⟨rfl,qC3 hv⟩;refine⟨_,_,?_,⟨hp.1,hp.2,by simp[SV.ok]⟩,h2⟩;unfold q35;rw[dR,h1];simp only[cond_true,qEB,SV.enc,qQ];rfl
def qTA (place:Nat->Option (Nat×Nat)):List SV->List (Nat×SV)->Option (List SV)
 | cells,[]=>some cells
 | cells,(i,v)::rest=>match place i with
   | some (off,size)=>cond (Nat.beq (yN v).length size&&(Nat.ble (off+size) cells.length&&(pnt v.enc&&(qB (yN v)).all aN))) (qTA place (qB3 cells off (yN v)) rest) none
   | none=>none
def zAA (l:List (Nat×SV)):List (Nat×PV):=l.map fun p=>(p.1,p.2.enc)
theorem pR {place:Nat->Option (Nat×Nat)}:∀ {l cs:List SV} {parts:List (Nat×SV)},qTA place l parts=some cs->qJX place (qB l) (zAA parts)=some (qB cs)∧(okL h l->(∀ p∈parts,p.2.ok h)->okL h cs)
 | l,cs,[],e=>by cases e;exact⟨rfl,fun a _=>a⟩
 | l,cs,(i,v)::rest,e=>by
   unfold qTA at e;split at e
   ·rename_i off size hpl
    cases hc:(Nat.beq (yN v).length size&&(Nat.ble (off+size) l.length&&(pnt v.enc&&(qB (yN v)).all aN))) with
    | false=>rw[hc] at e;cases e
    | true =>
      rw[hc] at e;obtain⟨h1,h2⟩:=pR (l:=qB3 l off (yN v)) e;refine⟨?_,fun a b=>h2 (qRA a (qC3 (b _ zQB))) fun p hp=>b p (zP6 _ hp)⟩
      show (match place i with
       | some (off,size)=>cond (Nat.beq (zC v.enc).length size&&(Nat.ble (off+size) (qB l).length&&(pnt v.enc&&(zC v.enc).all aN))) (qJX place (yI (qB l) off (zC v.enc)) (zAA rest)) none
       | none=>none)=some (qB cs)
      rw[hpl];simp only;rw[dR,qQ,qQ,hc,<-qBK];exact h1
   ·cases e
def qV6 (P:Program)(t:TypeId)(parts:List (Nat×SV)):Option SV:=match zcS P t with
 | some z=>cond (qBZ P t) (match qTA (qXE P t) z parts with
   | some cs=>some (.agg cs)
   | none=>none) none
 | none=>none
theorem qZE {t:TypeId}{parts:List (Nat×SV)}{v:SV}(hp:∀ p∈parts,p.2.ok h)(e:qV6 P t parts=some v):qJW P t (zAA parts)=some v.enc∧v.ok h:=by
 unfold qV6 at e;split at e
 ·rename_i z hz;obtain⟨h1,h2⟩:=nN (h:=h) hz
  cases hb:qBZ P t with
  | false=>rw[hb] at e;cases e
  | true =>
    rw[hb] at e;simp only[cond_true] at e;split at e
    ·rename_i cs hcs;cases e;obtain⟨h3,h4⟩:=pR (h:=h) hcs;simp only[qJW,h1,hb,cond_true,h3,SV.enc,SV.ok,true_and];exact h4 h2 hp
    ·cases e
 ·cases e
def Ty.zK7 (t:Ty):Nat->List SV->Option (List t.sem)
 | 0,[]=>some []
 | 0,_::_=>none
 | n+1,l=>match t.zJQ l with
   | some (x,l')=>(match t.zK7 n l' with
     | some xs=>some (x::xs)
     | none=>none)
   | none=>none
theorem qQA {t:Ty}:∀ {n:Nat} {l:List SV} {xs:List t.sem},t.zK7 n l=some xs->qB l=(xs.flatMap t.cells).map .f∧xs.length=n
 | 0,[],xs,e=>by cases e;simp[qB]
 | 0,_::_,xs,e=>by cases e
 | n+1,l,xs,e=>by
   unfold Ty.zK7 at e;split at e
   ·rename_i x l' hx;split at e
    ·rename_i ys hy;cases e;obtain⟨h1,h2⟩:=qQA hy;rw[qAI hx,h1,zQS,zRE];exact⟨rfl,by rw[zQJ,h2]⟩
    ·cases e
   ·cases e
def qTC (n:Nat)(z:List SV):List SV:=(List.replicate n z).flatten
theorem qAX (n:Nat)(z:List SV):qB (qTC n z)=qIX n (qB z):=by simp[qTC,qIX,zD,List.map_flatten]
def mY (P:Program)(t:TypeId)(len:Nat)(parts:List (Nat×SV))(k:Nat)(h:SH)(K:SV->SH->zGM R):zGM R:=match zQ P t with
 | some el=>(match szT P el,zcS P el,qBV P 8 el with
   | some (s+1),some z,some ty=>cond (Nat.beq ty.w (s+1)) (cond (Nat.beq z.length (s+1)&&Nat.ble (len*(s+1)) 65536) (match qTA (fun i=>some (i*(s+1),s+1)) (qTC len z) parts with
     | some cs=>(match ty.zK7 len cs with
       | some xs=>K (.own k h.next len) (h.new k fun v=>.list el false v v ty xs)
       | none=>K (.own k h.next len) (h.new k fun v=>.cells el v cs))
     | none=>.fail) .fail) .fail
   | some (s+1),some z,none=>cond (Nat.beq z.length (s+1)&&Nat.ble (len*(s+1)) 65536) (match qTA (fun i=>some (i*(s+1),s+1)) (qTC len z) parts with
     | some cs=>K (.own k h.next len) (h.new k fun v=>.cells el v cs)
     | none=>.fail) .fail
   | _,_,_=>.fail)
 | none=>.fail
omit [Yl] in
theorem wW {el:TypeId}{gr:Bool}{k n:Nat}{ty:Ty}{xs:List ty.sem}(hn:n=xs.length):(SV.own k h.next n).ok (h.new k fun v=>.list el gr v v ty xs):=by
 simp only[SV.ok];refine⟨zQY _,fun el' gr' w' t' xs' hk=>?_⟩;rw[show slk k (h.new k fun v=>.list el gr v v ty xs).l=some (.list el gr h.next h.next ty xs) from jK] at hk;cases hk;exact hn
theorem qEC {t:TypeId}{len k:Nat}{parts:List (Nat×SV)}{K:SV->SH->zGM R}(ho:OkH P h)(hp:∀ p∈parts,p.2.ok h)(e:(mY P t len parts k h K).run=some r) :
 ∃ v h',z8 P t len (zAA parts) k (qC h.l)=some (v.enc,qC h'.l)∧Post P h h' v∧(K v h').run=some r:=by
 unfold mY at e;split at e
 ·rename_i el hel;split at e
  ·rename_i s z ty hs hz hty;obtain⟨e1,e⟩:=qE e;obtain⟨e2,e⟩:=qE e;split at e
   ·rename_i cs hcs;split at e
    ·rename_i xs hxs;obtain⟨z1,z2⟩:=nN (h:=h) hz;obtain⟨f1,f2⟩:=pR (h:=h) hcs;obtain⟨d1,d2⟩:=qQA hxs;have hw:ty.w=s+1:=zPZ e1;have hn:=xG (k:=k) (f:=fun v=>.list el false v v ty xs) ho ⟨rfl,rfl,by rw[hs,hw],by omega⟩;refine⟨_,_,?_,⟨hn.1,hn.2,wW d2.symm⟩,e⟩;rw[qAX] at f1;simp only[z8,hel,hs,z1,qQ,e2,cond_true,f1,qEB,SV.enc,d1];rfl
    ·obtain⟨z1,z2⟩:=nN (h:=h) hz;obtain⟨f1,f2⟩:=pR (h:=h) hcs
     have zKG:okL h cs:=f2 (zI.2 fun x hx=>by
      unfold qTC at hx;obtain⟨l,hl,hx⟩:=zS2.1 hx;rw[zTU hl] at hx
      exact zI.1 z2 x hx) hp
     have hn:=xG (k:=k) (f:=fun v=>.cells el v cs) ho ⟨rfl,zKG⟩;refine⟨_,_,?_,⟨hn.1,hn.2,?_⟩,e⟩
     ·rw[qAX] at f1;simp only[z8,hel,hs,z1,qQ,e2,cond_true,f1,qEB,SV.enc];rfl
     ·simp only[SV.ok];refine⟨zQY _,fun el' gr' w' t' xs' hk=>?_⟩;rw[show slk k (h.new k fun v=>.cells el v cs).l=some (.cells el h.next cs) from jK] at hk;cases hk
   ·cases e
  ·rename_i s z hs hz hty;obtain⟨e2,e⟩:=qE e;split at e
   ·rename_i cs hcs;obtain⟨z1,z2⟩:=nN (h:=h) hz;obtain⟨f1,f2⟩:=pR (h:=h) hcs
    have zKG:okL h cs:=f2 (zI.2 fun x hx=>by
     unfold qTC at hx;obtain⟨l,hl,hx⟩:=zS2.1 hx;rw[zTU hl] at hx
     exact zI.1 z2 x hx) hp
    have hn:=xG (k:=k) (f:=fun v=>.cells el v cs) ho ⟨rfl,zKG⟩;refine⟨_,_,?_,⟨hn.1,hn.2,?_⟩,e⟩
    ·rw[qAX] at f1;simp only[z8,hel,hs,z1,qQ,e2,cond_true,f1,qEB,SV.enc];rfl
    ·simp only[SV.ok];refine⟨zQY _,fun el' gr' w' t' xs' hk=>?_⟩;rw[show slk k (h.new k fun v=>.cells el v cs).l=some (.cells el h.next cs) from jK] at hk;cases hk
   ·cases e
  ·cases e
 ·cases e
def q6A (P:Program)(t:TypeId)(l:SV)(k:Nat)(h:SH)(K:SV->SH->zGM R):zGM R:=match zQ P t,asI l with
 | some el,some (_,n)=>cond (zQ P el).isSome (match szT P el,zcS P el with
   | some (s+1),some z=>cond (kY P el&&Nat.beq z.length (s+1)) (.bind (mkN n) fun N=>K (.own k h.next N) (h.new k fun v=>.cells el v (qTC N z))) .fail
   | _,_=>.fail) (match szT P el,zcS P el,qBV P 8 el with
   | some (s+1),some z,some ty=>cond (kY P el&&(Nat.beq z.length (s+1)&&Nat.beq ty.w (s+1))) (match ty.zJC z with
     | some z0=>.bind (mkN n) fun N=>K (.own k h.next N) (h.new k fun v=>.list el false v v ty (List.replicate N z0))
     | none=>.fail) .fail
   | _,_,_=>.fail)
 | _,_=>.fail
omit [Yl] in
theorem qQ3 {t:Ty}{z:t.sem}:∀ (n:Nat),((List.replicate n z).flatMap t.cells).map PV.f=qIX n ((t.cells z).map .f)
 | 0=>rfl
 | n+1=>by
   rw[zRU,zQS,zRE,qQ3 n];simp[qIX,zRU]
theorem q2F {t:TypeId}{l:SV}{k:Nat}{K:SV->SH->zGM R}(ho:OkH P h)(e:(q6A P t l k h K).run=some r) :
 ∃ v h',xC P t l.enc l.enc k (qC h.l)=some (v.enc,qC h'.l)∧Post P h h' v∧(K v h').run=some r:=by
 unfold q6A at e;split at e
 ·rename_i el ki n hel hl
  cases hb:(zQ P el).isSome with
  | true =>
    rw[hb] at e;simp only[cond_true] at e;split at e
    ·rename_i s z hs hz;obtain⟨e1,e⟩:=qE e;obtain⟨N,hN,e⟩:=run_bind e;obtain⟨z1,z2⟩:=nN (h:=h) hz
     have zKG:okL h (qTC N z):=zI.2 fun x hx=>by
      unfold qTC at hx;obtain⟨l,hl,hx⟩:=zS2.1 hx;rw[zTU hl] at hx;exact zI.1 z2 x hx
     have hn:=xG (k:=k) (f:=fun v=>.cells el v (qTC N z)) ho ⟨rfl,zKG⟩;refine⟨_,_,?_,⟨hn.1,hn.2,?_⟩,e⟩
     ·rw[yC hl];simp only[xC,fvv,hel,decide_true,cond_true,hN,hs,z1,qQ,e1,qEB,SV.enc];show some (PV.own k N 0 N,(k,(⟨el,false,qIX N (qB z)⟩:PO))::qC h.l)=some (PV.own k N 0 N,(k,⟨el,false,qB (qTC N z)⟩)::qC h.l);rw[qAX]
     ·simp only[SV.ok];refine⟨zQY _,fun el' gr' w' t' xs' hk=>?_⟩;rw[show slk k (h.new k fun v=>.cells el v (qTC N z)).l=some (.cells el h.next (qTC N z)) from jK] at hk;cases hk
    ·cases e
  | false =>
  rw[hb] at e;simp only[cond_false] at e;split at e
  ·rename_i s z ty hs hz hty;obtain⟨e1,e⟩:=qE e;simp only[zPY] at e1;obtain⟨q1,q2,q3⟩:=e1;split at e
   ·rename_i z0 hz0;obtain⟨N,hN,e⟩:=run_bind e;obtain⟨z1,z2⟩:=nN (h:=h) hz;have hw:ty.w=s+1:=zPZ q3;have hn:=xG (k:=k) (f:=fun v=>.list el false v v ty (List.replicate N z0)) ho ⟨rfl,rfl,by rw[hs,hw],by omega⟩;refine⟨_,_,?_,⟨hn.1,hn.2,wW (xs:=List.replicate N z0) (by simp)⟩,e⟩;rw[yC hl];simp only[xC,fvv,hel,decide_true,cond_true,hN,hs,z1,qQ,q1,q2,zQU,qEB,SV.enc];show some (PV.own k N 0 N,(k,(⟨el,false,qIX N (qB z)⟩:PO))::qC h.l)=some (PV.own k N 0 N,(k,⟨el,false,((List.replicate N z0).flatMap ty.cells).map PV.f⟩)::qC h.l);rw[qQ3,pI hz0]
   ·cases e
  ·cases e
 ·cases e
def qXJ (h:SH):SV->Bool
 | .ref k _ w=>match slk k h.l with
   | some (.cells _ _ l)=>Nat.beq w l.length
   | _=>false
 | .elt k g _ w _ _=>match slk k h.l with
   | some (.list _ _ g' _ t _)=>Nat.beq g g'&&Nat.beq w t.w
   | _=>false
 | .lp _ _ _ _=>true
 | _=>false
theorem qG9 {k off w:Nat}(e:qXJ h (.ref k off w)=true):live? k w (qC h.l)=true:=by
 simp only[qXJ] at e;split at e
 ·rename_i el w' l hk;unfold live?;rw[zK hk];show Nat.beq w (qB l).length=true;rw[qQ];exact e
 ·cases e
theorem qIT {k g n w j off:Nat}(ho:(SV.elt k g n w j off).ok h)(e:qXJ h (.elt k g n w j off)=true):live? k (n*w) (qC h.l)=true:=by
 simp only[qXJ] at e;split at e
 ·rename_i el gr g' w' t xs hk;rw[zPY] at e;have hg:g=g':=zPZ e.1;have hw:w=t.w:=zPZ e.2;subst hg hw;simp only[SV.ok] at ho;unfold live?;rw[zK hk];show Nat.beq (n*t.w) (SO.list el gr g w' t xs).enc.cs.length=true;rw[qU,ho.2 _ _ _ _ _ hk];exact aJ _
 ·cases e
def q8W (h:SH)(x:SV)(T:zGM R):zGM R:=match x with
 | .ref k _ w=>(match slk k h.l with
   | some (.spc _ (.arr _ _ xs))=>.ite (Nat.beq w (List.length xs)) T .fail
   | some (.cells _ _ l)=>cond (Nat.beq w l.length) T .fail
   | _=>.fail)
 | x=>cond (qXJ h x) T .fail
theorem q2T {x:SV}{T:zGM R}(e:(q8W h x T).run=some r):T.run=some r∧(∀ k o w,x=.ref k o w->live? k w (qC h.l)=true)∧(∀ k g n w j o,x=.elt k g n w j o->qXJ h x=true):=by
 unfold q8W at e;split at e
 ·rename_i k o w;split at e
  ·rename_i w' el ik xs hk
   rcases run_ite e with ⟨z,e1⟩ | ⟨_,e1⟩
   ·refine⟨e1,fun k' o' w2 h=>?_,fun _ _ _ _ _ _ h=>by cases h⟩;cases h;unfold live?;rw[zK hk];show Nat.beq w (xs.map fun x=>fvv (.int ik x)).length=true;rw[zP5];exact z
   ·cases e1
  ·rename_i el w' l hk;obtain⟨z,e1⟩:=qE e;refine⟨e1,fun k' o' w2 h=>?_,fun _ _ _ _ _ _ h=>by cases h⟩;cases h;exact qG9 (off:=o) (by simp only[qXJ,hk];exact z)
  ·cases e
 ·rename_i hne;obtain⟨z,e1⟩:=qE e;exact⟨e1,fun k o w h=>absurd h (hne k o w),fun _ _ _ _ _ _ _=>z⟩
def qMZ (n:Nat):SV->SV
 | .ref k off w=>.ref k (off+n) w
 | .elt k g m w j off=>.elt k g m w j (off+n)
 | .lp t xs j off=>.lp t xs j (off+n)
 | v=>v
def zFO:SV->Bool
 | .ref _ _ _=>true
 | .elt _ _ _ _ _ _=>true
 | .lp _ _ _ _=>true
 | _=>false
omit [Yl] in
theorem qYQ {n:Nat}{v:SV}(hv:v.ok h):(qMZ n v).ok h:=by
 cases v <;> simp only[qMZ,SV.ok] at hv ⊢ <;> exact hv
def sJ (P:Program)(t:TypeId)(x:SV)(i:Nat)(h:SH):Option SV:=match zB5 P t i with
 | some (off,ft)=>(match szT P ft with
   | some (_+1)=>cond (qXJ h x) (some (qMZ off x)) none
   | _=>none)
 | none=>none
theorem qF8 {t:TypeId}{x v:SV}{i:Nat}(hx:x.ok h)(e:sJ P t x i h=some v):zY P t x.enc i (qC h.l)=some v.enc∧v.ok h:=by
 unfold sJ at e;unfold zY;split at e
 ·rename_i off ft hf;split at e
  ·rename_i s hs
   cases hl:qXJ h x with
   | false=>rw[hl] at e;cases e
   | true =>
     rw[hl] at e;cases e;refine⟨?_,qYQ hx⟩;simp only[hf,hs]
     cases x with
     | ref k o w=>simp only[SV.enc,qMZ,qG9 hl,cond_true]
     | elt k g n w j o=>simp only[SV.enc,qMZ,qIT hx hl,cond_true,zRV]
     | lp t xs j o=>simp only[SV.enc,qMZ,zRV]
     | _=>cases hl
  ·cases e
 ·cases e
def zEH (n:Nat)(ix:SV)(K:Nat->zGM R):zGM R:=match ix with
 | .c (.int _ i)=>(match idx n i with
   | some j=>K j
   | none=>.fail)
 | v=>(match asI v with
   | some (_,i)=>.bind (idx n i) K
   | none=>.fail)
theorem q7Q {n:Nat}{ix:SV}{K:Nat->zGM R}(e:(zEH n ix K).run=some r):∃ k i j,ix.enc=fvv (.int k i)∧idx n i=some j∧(K j).run=some r:=by
 unfold zEH at e;split at e
 ·rename_i k i;split at e
  ·rename_i j hj;exact⟨k,i,j,by simp[SV.enc],hj,e⟩
  ·cases e
 ·split at e
  ·rename_i k i hi;obtain⟨j,hj,e⟩:=run_bind e;exact⟨k,i,j,yC hi,hj,e⟩
  ·cases e
def q9J (n:Nat)(ix:SV)(K K2:Nat->zGM R):zGM R:=match ix with
 | .c (.int _ i)=>(match idx n i with
   | some j=>K j
   | none=>.fail)
 | v=>(match asI v with
   | some (_,i)=>.bind (idx n i) K2
   | none=>.fail)
theorem q3U {n:Nat}{ix:SV}{K K2:Nat->zGM R}(e:(q9J n ix K K2).run=some r):∃ k i j,ix.enc=fvv (.int k i)∧idx n i=some j∧((K j).run=some r∨(K2 j).run=some r):=by
 unfold q9J at e;split at e
 ·rename_i k i;split at e
  ·rename_i j hj;exact⟨k,i,j,by simp[SV.enc],hj,.inl e⟩
  ·cases e
 ·split at e
  ·rename_i k i hi;obtain⟨j,hj,e⟩:=run_bind e;exact⟨k,i,j,yC hi,hj,.inr e⟩
  ·cases e
def zCY (n:Nat):SV->SV
 | .ref k off w=>.rfx k (off+n) w
 | .elt k g m w j off=>.etx k g m w j (off+n)
 | v=>qMZ n v
omit [Yl] in
theorem q69 {n:Nat}{v:SV}(hv:v.ok h):(zCY n v).ok h:=by
 cases v <;> simp only[zCY,qMZ,SV.ok] at hv ⊢ <;> exact hv
theorem q1H {n:Nat}{v:SV}(hv:zFO v=true):(zCY n v).enc=(qMZ n v).enc:=by
 cases v <;> first | rfl | (simp only[zCY,qMZ,SV.enc])
def rF (P:Program)(t:TypeId)(x ix:SV)(h:SH)(K:SV->zGM R):zGM R:=match x with
 | .d (.list el u) xs=>(match asI ix,zQ P t with
   | some (_,i),some el'=>(match szT P el' with
     | some s=>cond (Nat.beq s u.w) (.bind (idx (List.length xs) i) fun j=>K (.lp u xs j 0)) .fail
     | none=>.fail)
   | _,_=>.fail)
 | .own k g n=>(match asI ix,zQ P t,slk k h.l with
   | some (_,i),some el',some (.list el _ g' _ u _)=>cond (Nat.beq el' el&&Nat.beq g g') (.bind (idx n i) fun j=>K (.elt k g n u.w j 0)) .fail
   | some (_,i),some el',some (.cells el _ cs)=>(match szT P el with
     | some s=>cond (Nat.beq el' el&&Nat.beq (n*s) cs.length) (.bind (idx n i) fun j=>K (.ref k (j*s) cs.length)) .fail
     | none=>.fail)
   | _,_,_=>.fail)
 | .sl k g n o m=>(match asI ix,zQ P t,slk k h.l with
   | some (_,i),some el',some (.list el _ g' _ u _)=>cond (Nat.beq el' el&&Nat.beq g g') (.bind (idx m i) fun j=>K (.elt k g n u.w (o+j) 0)) .fail
   | _,_,_=>.fail)
 | x=>(match qRT P t with
   | some (n,el)=>(match szT P el with
     | some s=>cond (zFO x) (q8W h x (q9J n ix (fun j=>K (qMZ (j*s) x)) fun j=>K (zCY (j*s) x))) .fail
     | none=>.fail)
   | none=>.fail)
theorem qGF {t:TypeId}{x ix:SV}{K:SV->zGM R}(ho:OkH P h)(hx:x.ok h)(e:(rF P t x ix h K).run=some r):∃ v,zA P t x.enc ix.enc (qC h.l)=some v.enc∧v.ok h∧(K v).run=some r:=by
 unfold rF at e;split at e
 ·rename_i el u xs;split at e
  ·rename_i k i el' hi hel;split at e
   ·rename_i s hs;obtain⟨h1,e1⟩:=qE e;obtain⟨j,hj,e2⟩:=run_bind e1;have hw:s=u.w:=zPZ h1;subst hw;refine⟨_,?_,by simp[SV.ok],e2⟩;rw[yC hi];simp only[SV.enc,Ty.fv,fvv,zA,hel,hs,hj,zSK]
   ·cases e
  ·cases e
 ·rename_i k g n;split at e
  ·rename_i ki i el' el gr g' w u xs hi hel hk;obtain⟨h1,e1⟩:=qE e;obtain⟨j,hj,e2⟩:=run_bind e1;rw[zPY] at h1;have hg:g=g':=zPZ h1.2;subst hg;simp only[SV.ok] at hx;have hn:=hx.2 _ _ _ _ _ hk;have hl:=ho.list _ _ _ _ _ _ _ hk;refine⟨_,?_,by simp only[SV.ok];exact hx,e2⟩;rw[yC hi];simp only[SV.enc,fvv,zA,hel,zK hk]
   show (match szT P el with
    | some s=>(match idx n i with
      | some j=>cond (Nat.beq el' el&&Nat.beq (n*s) (SO.list el gr g w u xs).enc.cs.length) (some (PV.ref k (SO.list el gr g w u xs).enc.cs.length ((0+j)*s))) none
      | none=>none)
    | none=>none)=_
   rw[hl.2.1,hj];simp only[qU,hn,aJ,h1.1,zQU,cond_true,zQI,zSK]
  ·rename_i ki i el' el w cs hi hel hk;split at e
   ·rename_i s hs;obtain⟨h1,e1⟩:=qE e;obtain⟨j,hj,e2⟩:=run_bind e1;refine⟨_,?_,by simp[SV.ok],e2⟩;rw[yC hi];simp only[SV.enc,fvv,zA,hel,zK hk]
    show (match szT P el with
     | some s=>(match idx n i with
       | some j=>cond (Nat.beq el' el&&Nat.beq (n*s) (qB cs).length) (some (PV.ref k (qB cs).length ((0+j)*s))) none
       | none=>none)
     | none=>none)=_
    rw[hs,hj];simp only[qQ,h1,cond_true,zQI]
   ·cases e
  ·cases e
 ·rename_i k g n o m;split at e
  ·rename_i ki i el' el gr g' w u xs hi hel hk;obtain⟨h1,e1⟩:=qE e;obtain⟨j,hj,e2⟩:=run_bind e1;rw[zPY] at h1;have hg:g=g':=zPZ h1.2;subst hg;simp only[SV.ok] at hx;have hn:=hx.1.2 _ _ _ _ _ hk;have hl:=ho.list _ _ _ _ _ _ _ hk;refine⟨_,?_,by simp only[SV.ok];exact hx.1,e2⟩;rw[yC hi];simp only[SV.enc,fvv,zA,hel,zK hk]
   show (match szT P el with
    | some s=>(match idx m i with
      | some j=>cond (Nat.beq el' el&&Nat.beq (n*s) (SO.list el gr g w u xs).enc.cs.length) (some (PV.ref k (SO.list el gr g w u xs).enc.cs.length ((o+j)*s))) none
      | none=>none)
    | none=>none)=_
   rw[hl.2.1];simp only[hj,qU,hn,aJ,h1.1,zQU,cond_true,zSK]
  ·cases e
 ·split at e
  ·rename_i n el ha;split at e
   ·rename_i s hs;obtain⟨h1,e⟩:=qE e;obtain⟨e,h2,h3⟩:=q2T e;obtain⟨ki,i,j,hi,hj,e⟩:=q3U e
    obtain⟨v,hv1,hv2,e⟩:∃ v:SV,v.enc=(qMZ (j*s) x).enc∧v.ok h∧(K v).run=some r:=by
     rcases e with e | e
     ·exact⟨_,rfl,qYQ hx,e⟩
     ·exact⟨_,q1H h1,q69 hx,e⟩
    refine⟨_,?_,hv2,e⟩;rw[hi,hv1]
    cases x with
    | ref k o w=>simp only[SV.enc,qMZ,fvv,zA,ha,hs,hj,h2 _ _ _ rfl,cond_true]
    | elt k g n w j o=>simp only[SV.enc,qMZ,fvv,zA,ha,hs,hj,qIT hx (h3 _ _ _ _ _ _ rfl),cond_true,zRV]
    | lp t xs j o=>simp only[SV.enc,qMZ,fvv,zA,ha,hs,hj,zRV]
    | _=>cases h1
   ·cases e
  ·cases e
def qXD (P:Program)(t:TypeId)(x ix:SV)(K:SV->zGM R):zGM R:=match qRT P t,x with
 | some (n,el),.agg l=>(match szT P el with
   | some s=>zEH n ix fun j=>match qF9 P el l (j*s) with
     | some v=>K v
     | none=>.fail
   | none=>.fail)
 | _,_=>.fail
theorem qY4 {t:TypeId}{x ix:SV}{K:SV->zGM R}(hx:x.ok h)(e:(qXD P t x ix K).run=some r):∃ v,qFH P t x.enc ix.enc=some v.enc∧v.ok h∧(K v).run=some r∧∃ l,x=.agg l:=by
 unfold qXD at e;split at e
 ·rename_i n el l ha;split at e
  ·rename_i s hs;obtain⟨ki,i,j,hi,hj,e⟩:=q7Q e;split at e
   ·rename_i v hv;obtain⟨h1,h2⟩:=qGD (h:=h) hv;simp only[SV.ok] at hx;refine⟨v,?_,h2 hx,e,l,rfl⟩;rw[hi];simp only[qFH,ha,SV.enc,fvv,hs,hj];exact h1
   ·cases e
  ·cases e
 ·cases e
def qHA (v:SV)(i:Nat):Option SV:=match v with
 | .tup l=>(match zG l i with
   | some x=>cond (pnt x.enc) (some x) none
   | none=>none)
 | _=>none
theorem qN7 {x v:SV}{i:Nat}(hx:x.ok h)(e:qHA x i=some v):cB x.enc i=some v.enc∧v.ok h:=by
 unfold qHA at e;split at e
 ·rename_i l;split at e
  ·rename_i y hy
   cases hp:pnt y.enc with
   | false=>rw[hp] at e;cases e
   | true =>
     rw[hp] at e;cases e;simp only[SV.ok] at hx;refine⟨?_,mZ hx hy⟩;simp only[cB,SV.enc,qV,hy,zQC,hp,cond_true]
  ·cases e
 ·cases e
def qC7 (fn:Fn)(first cap:List SV):Option SV:=match fn with
 | .func g=>some (match first,cap with
   | [],[]=>.c (.func (.func g) #[] #[])
   | _,_=>.fn g first cap)
 | _=>none
theorem qI2 {fn:Fn}{first cap:List SV}{v:SV}(h1:okL h first)(h2:okL h cap)(e:qC7 fn first cap=some v):vI fn (qB first) (qB cap)=some v.enc∧v.ok h:=by
 unfold qC7 at e;split at e
 ·rename_i g;cases e
  cases first with
  | nil=>cases cap with
    | nil=>exact⟨by simp[vI,qB,SV.enc],by simp[SV.ok]⟩
    | cons x l=>exact⟨by simp[vI,qB,SV.enc],by simp only[SV.ok];exact⟨h1,h2⟩⟩
  | cons y l=>exact⟨by simp[vI,qB,SV.enc],by simp only[SV.ok];exact⟨h1,h2⟩⟩
 ·cases e
def qDQ (v:SV)(h:SH):Option SV:=match v with
 | .fn _ _ _=>some v
 | .c (.func (.func _) _ _)=>some v
 | v=>cond (qXJ h v) (some v) none
theorem qKZ {x v:SV}(hx:x.ok h)(e:qDQ x h=some v):yP x.enc (qC h.l)=some v.enc∧v.ok h:=by
 unfold qDQ at e;split at e
 ·cases e;exact⟨by simp[yP,SV.enc],hx⟩
 ·cases e;exact⟨by simp[yP,SV.enc,fvv],hx⟩
 ·cases hl:qXJ h x with
  | false=>rw[hl] at e;cases e
  | true =>
    rw[hl] at e;cases e;refine⟨?_,hx⟩
    cases x with
    | ref k o w=>simp only[SV.enc,yP,qG9 hl,cond_true]
    | elt k g n w j o=>simp only[SV.enc,yP,qIT hx hl,cond_true]
    | lp t xs j o=>simp only[SV.enc,yP]
    | _=>cases hl
end
end Go.Sv
namespace Go.Sv
open Go.Idl
variable {el:TypeId}{k:Nat}{t:Ty}{x:SV}
noncomputable section
variable [Gc]
variable [Yl]
variable {P:Program}{h:SH}{R:Type}{r:R}
def zE9 (P:Program)(ts:Array TypeId)(x:SV)(h:SH):Option SV:=match ts[0]? with
 | some t=>(match zQ P t with
   | some _=>(match x with
     | .d (.list _ _) xs=>some (.d (.int .i64) ((List.length xs:Nat):Int))
     | .c (.slice _ n _)=>some (.c (.int .i64 (n:Int)))
     | .own k g n=>(match slk k h.l with
       | some (.list _ _ g' _ _ _)=>cond (Nat.beq g g') (some (.d (.int .i64) (n:Int))) none
       | some (.cells el _ cs)=>(match szT P el with
         | some s=>cond (Nat.beq (n*s) cs.length) (some (.c (.int .i64 (n:Int)))) none
         | none=>none)
       | _=>none)
     | .sl k g _ _ m=>(match slk k h.l with
       | some (.list _ _ g' _ _ _)=>cond (Nat.beq g g') (some (.d (.int .i64) (m:Int))) none
       | _=>none)
     | _=>none)
   | none=>(match qRT P t with
     | some (n,_)=>some (.c (.int .i64 (n:Int)))
     | none=>none))
 | none=>none
theorem q7A {ts:Array TypeId}{v:SV}(ho:OkH P h)(hx:x.ok h)(e:zE9 P ts x h=some v):q2L P ts x.enc (qC h.l)=some v.enc∧v.ok h:=by
 unfold zE9 at e;unfold q2L;split at e
 ·rename_i t ht;split at e
  ·rename_i el hel;split at e
   ·rename_i el' u xs;cases e;simp[ht,hel,SV.enc,Ty.fv,fvv,SV.ok]
   ·rename_i a n c;cases e;simp[ht,hel,SV.enc,fvv,SV.ok]
   ·rename_i k g n;split at e
    ·rename_i el' gr g' w u xs hk
     obtain⟨h1,e1⟩:Nat.beq g g'=true∧some (SV.d (.int .i64) (n:Int))=some v:=by
      cases hb:Nat.beq g g' with
      | false=>rw[hb] at e;cases e
      | true=>rw[hb] at e;exact⟨rfl,e⟩
     cases e1;have hg:g=g':=zPZ h1;subst hg;simp only[SV.ok] at hx;have hn:=hx.2 _ _ _ _ _ hk;have hl:=ho.list _ _ _ _ _ _ _ hk;refine⟨?_,by simp[SV.ok]⟩;simp only[ht,hel,SV.enc,zK hk]
     show (match szT P el' with
      | some s=>cond (Nat.beq (n*s) (SO.list el' gr g w u xs).enc.cs.length) (some (fvv (.int .i64 (n:Int)))) none
      | none=>none)=_
     rw[hl.2.1];simp only[qU,hn,aJ,cond_true,Ty.fv,fvv]
    ·rename_i el' w cs hk;split at e
     ·rename_i s hs
      cases hb:Nat.beq (n*s) cs.length with
      | false=>rw[hb] at e;cases e
      | true =>
        rw[hb] at e;cases e;refine⟨?_,by simp[SV.ok]⟩;simp only[ht,hel,SV.enc,zK hk]
        show (match szT P el' with
         | some s=>cond (Nat.beq (n*s) (qB cs).length) (some (fvv (.int .i64 (n:Int)))) none
         | none=>none)=_
        rw[hs];simp only[qQ,hb,cond_true]
     ·cases e
    ·cases e
   ·rename_i k g n o m;split at e
    ·rename_i el' gr g' w u xs hk
     obtain⟨h1,e1⟩:Nat.beq g g'=true∧some (SV.d (.int .i64) (m:Int))=some v:=by
      cases hb:Nat.beq g g' with
      | false=>rw[hb] at e;cases e
      | true=>rw[hb] at e;exact⟨rfl,e⟩
     cases e1;have hg:g=g':=zPZ h1;subst hg;simp only[SV.ok] at hx;have hn:=hx.1.2 _ _ _ _ _ hk;have hl:=ho.list _ _ _ _ _ _ _ hk;refine⟨?_,by simp[SV.ok]⟩;simp only[ht,hel,SV.enc,zK hk]
     show (match szT P el' with
      | some s=>cond (Nat.beq (n*s) (SO.list el' gr g w u xs).enc.cs.length) (some (fvv (.int .i64 (m:Int)))) none
      | none=>none)=_
     rw[hl.2.1];simp only[qU,hn,aJ,cond_true,Ty.fv,fvv]
    ·cases e
   ·cases e
  ·rename_i hel;split at e
   ·rename_i n el ha;cases e;simp[ht,hel,ha,SV.enc,SV.ok]
   ·cases e
 ·cases e
def qD8 (u t:Ty)(xs:List u.sem):Option (List t.sem):=if e:u=t then some (e ▸ xs) else none
omit [Yl] in
theorem uP {u:Ty}{xs:List u.sem}{ys:List t.sem}(e:qD8 u t xs=some ys):(⟨u,xs⟩:(t:Ty)×List t.sem)=⟨t,ys⟩:=by
 unfold qD8 at e;split at e
 ·rename_i h;subst h;cases e;rfl
 ·cases e
def qX0 (t:Ty)(x:SV)(h:SH):Option (List t.sem):=match x with
 | .d (.list _ u) xs=>qD8 u t xs
 | .c (.slice none 0 _)=>some []
 | .own k g _=>(match slk k h.l with
   | some (.list _ _ g' _ u xs)=>cond (Nat.beq g g') (qD8 u t xs) none
   | _=>none)
 | .sl k g _ o m=>(match slk k h.l with
   | some (.list _ _ g' _ u xs)=>cond (Nat.beq g g') (match qD8 u t xs with
     | some xs=>some ((xs.drop o).take m)
     | none=>none) none
   | _=>none)
 | _=>none
theorem qG5 {ys:List t.sem}(ho:OkH P h)(hx:x.ok h)(e:qX0 t x h=some ys):mX P t.w x.enc (qC h.l)=some (ys.length,(ys.flatMap t.cells).map .f):=by
 unfold qX0 at e;unfold mX;split at e
 ·rename_i el u xs;cases uP e;simp only[SV.enc,Ty.fv,zT,aJ,cond_true]
 ·cases e;simp[SV.enc,fvv]
 ·rename_i k g n;split at e
  ·rename_i el gr g' w u xs hk
   cases hb:Nat.beq g g' with
   | false=>rw[hb] at e;cases e
   | true =>
     rw[hb] at e;have hg:g=g':=zPZ hb;subst hg;cases uP e;simp only[SV.ok] at hx;have hn:=hx.2 _ _ _ _ _ hk;have hl:=ho.list _ _ _ _ _ _ _ hk;simp only[SV.enc,zK hk]
     show (match szT P el with
      | some s'=>cond (Nat.beq (n*s') (SO.list el gr g w t ys).enc.cs.length&&Nat.beq t.w s') (some (n,(((ys.flatMap t.cells).map PV.f).drop (0*t.w)).take (n*t.w))) none
      | none=>none)=_
     rw[hl.2.1];simp only[qU,hn,aJ,zQU,cond_true,zTR,zRI];rw[zQT (by rw[zP5,zT];exact zP0 _)]
  ·cases e
 ·rename_i k g n o m;split at e
  ·rename_i el gr g' w u xs hk
   cases hb:Nat.beq g g' with
   | false=>rw[hb] at e;cases e
   | true =>
     rw[hb] at e;have hg:g=g':=zPZ hb;subst hg;simp only[cond_true] at e;split at e
     case h_2=>cases e
     rename_i xs2 zOA;cases e;cases uP zOA;simp only[SV.ok] at hx;have hn:=hx.1.2 _ _ _ _ _ hk;have hl:=ho.list _ _ _ _ _ _ _ hk;simp only[SV.enc,zK hk]
     show (match szT P el with
      | some s'=>cond (Nat.beq (n*s') (SO.list el gr g w t xs2).enc.cs.length&&Nat.beq t.w s') (some (m,(((xs2.flatMap t.cells).map PV.f).drop (o*t.w)).take (m*t.w))) none
      | none=>none)=_
     rw[hl.2.1];simp only[qU,hn,aJ,zQU,cond_true];rw[<-zSD,<-zR6,gI,gM]
     congr 1
     have:=hx.2;rw[zQ3,zSP,zRO (by omega)]
  ·cases e
 ·cases e
omit [Yl] in
theorem qDS (ys:List t.sem):((ys.flatMap t.cells).map PV.f).all aN=true:=by
 rw[zP1];intro x hx;obtain⟨y,_,rfl⟩:=zQR.1 hx;rfl
omit [Yl] in
theorem qID {h0:SH}{gr:Bool}{n m:Nat}{ty:Ty}{xs ys:List ty.sem}(hn:n=xs.length)(hm:m=ys.length):(SV.own k h0.next (n+m)).ok (h0.new k fun v=>.list el gr v v ty (xs++ys)) :=
 wW (by rw[zQL,hn,hm])
def qHV (P:Program)(ts:List TypeId)(base x:SV)(k:Nat)(h:SH)(K:SV->SH->zGM R):zGM R:=match ts with
 | [st,xt]=>(match zQ P st,zQ P xt with
   | some el,some _=>(match szT P el,qBV P 8 el with
     | some (s+1),some t=>cond (Nat.beq t.w (s+1)&&kY P el) (match qX0 t x h with
       | some ys=>(match base with
         | .c (.slice none 0 0)=>.ite (Nat.beq ys.length 0) (K base h)
            (.ite (Nat.ble (0+ys.length) 1048576) (K (.own k h.next (0+ys.length)) (h.new k fun v=>.list el true v v t ([]++ys))) .fail)
         | .own j g n=>(match slk j h.l with
           | some (.list el' gr g' _ u xs)=>cond (Nat.beq el' el&&Nat.beq g g') (match qD8 u t xs with
             | some xs=>.ite (Nat.beq ys.length 0) (K base h)
                (.ite (Nat.ble (n+ys.length) 1048576) (cond gr (K (.own j h.next (n+ys.length)) ((h.del j).new j fun v=>.list el true v v t (xs++ys))) (K (.own k h.next (n+ys.length)) (h.new k fun v=>.list el true v v t (xs++ys)))) .fail)
             | none=>.fail) .fail
           | _=>.fail)
         | _=>.fail)
       | none=>.fail) .fail
     | _,_=>.fail)
   | _,_=>.fail)
 | _=>.fail
omit [Yl] in
theorem qG6 {xs ys:List t.sem}{ph:PHp}(h1:Nat.ble (xs.length+ys.length) 1048576=true)(h2:kY P el=true) :
 rC P el t.w ((xs.flatMap t.cells).map .f) xs.length ((ys.flatMap t.cells).map .f) ys.length k ph=some (.own k (xs.length+ys.length) 0 (xs.length+ys.length),(k,⟨el,true,((xs++ys).flatMap t.cells).map .f⟩)::ph):=by
 unfold rC;rw[h1,h2,zP5,zT,zP5,zT,qDS];simp only[aJ,zQU,cond_true,qEB];rw[zS6,zRE]
theorem qEH {ts:List TypeId}{base:SV}{K:SV->SH->zGM R}(ho:OkH P h)(hb:base.ok h)(hx:x.ok h)(e:(qHV P ts base x k h K).run=some r) :
 ∃ v h',zV P ts base.enc x.enc k (qC h.l)=some (v.enc,qC h'.l)∧Post P h h' v∧(K v h').run=some r:=by
 unfold qHV at e;split at e
 ·rename_i st xt;split at e
  ·rename_i el el2 hel zIN;split at e
   ·rename_i s t hs hty;have e_:=qE e;clear e;obtain⟨c1,e⟩:=e_;rw[zPY] at c1;have hw:s+1=t.w:=(zPZ c1.1).symm;split at e
    ·rename_i ys hys;have hnw:=qG5 ho hx hys;split at e
     ·have e_:=run_ite e;clear e
      rcases e_ with ⟨z,e⟩ | ⟨z,e⟩
      ·refine⟨_,_,?_,⟨.refl _,ho,hb⟩,e⟩;simp only[zV,hel,zIN,hs,SV.enc,fvv];rw[hw,hnw];simp only[z,cond_true]
      ·have e_:=run_ite e;clear e
       rcases e_ with ⟨z2,e⟩ | ⟨z2,e⟩
       ·have hn:=xG (k:=k) (f:=fun v=>.list el true v v t ([]++ys)) ho ⟨rfl,rfl,by rw[hs];exact congrArg some hw,by omega⟩;refine⟨_,_,?_,⟨hn.1,hn.2,qID (xs:=[]) rfl rfl⟩,e⟩;simp only[zV,hel,zIN,hs,SV.enc,fvv];rw[hw,hnw];simp only[z,cond_false];exact qG6 (xs:=[]) z2 c1.2
       ·cases e
     ·rename_i j g n;split at e
      ·rename_i el' gr g' w u xs0 hk;have e_:=qE e;clear e;obtain⟨c2,e⟩:=e_;rw[zPY] at c2;have he:el'=el:=zPZ c2.1;have hg:g=g':=zPZ c2.2;split at e
       ·rename_i xs hxs;have hcast:=uP hxs
        have hk2:slk j h.l=some (.list el gr g w t xs):=by
         rw[hk,he,<-hg];cases hcast;rfl
        have hnl:n=xs.length:=by
         simp only[SV.ok] at hb;exact hb.2 _ _ _ _ _ hk2
        have pre:∀ z:PV×PHp,(cond (Nat.beq ys.length 0) (some (PV.own j n 0 n,qC h.l))
         (cond (Nat.ble (n+ys.length) n) (cond (Nat.beq ((ys.flatMap t.cells).map PV.f).length (ys.length*(s+1))&&((ys.flatMap t.cells).map PV.f).all aN) (some (PV.own j n 0 (n+ys.length),xO j { (SO.list el gr g w t xs).enc with cs:=yI (SO.list el gr g w t xs).enc.cs (n*(s+1)) ((ys.flatMap t.cells).map PV.f) } (qC h.l))) none)
           (cond gr (rC P el (s+1) (SO.list el gr g w t xs).enc.cs n ((ys.flatMap t.cells).map PV.f) ys.length j (o8 j (qC h.l))) (rC P el (s+1) (SO.list el gr g w t xs).enc.cs n ((ys.flatMap t.cells).map PV.f) ys.length k (qC h.l)))))=some z ->
         zV P [st,xt] (SV.own j g n).enc x.enc k (qC h.l)=some z:=fun z hz=>by
         simp only[zV,hel,zIN,hs,SV.enc];rw[show mX P (s+1) x.enc (qC h.l)=_ from (hw ▸ hnw)];simp only[zK hk2];rw[show (SO.list el gr g w t xs).enc.el=el from rfl,show Nat.beq (n*(s+1)) (SO.list el gr g w t xs).enc.cs.length=true by rw[qU,hw,hnl];exact aJ _];simp only[aJ,zQU,cond_true];exact hz
        have e_:=run_ite e;clear e
        rcases e_ with ⟨z,e⟩ | ⟨z,e⟩
        ·refine⟨_,_,pre _ ?_,⟨.refl _,ho,hb⟩,e⟩;rw[z];simp[SV.enc]
        ·have e_:=run_ite e;clear e
         rcases e_ with ⟨z2,e⟩ | ⟨z2,e⟩
         ·have hpos:Nat.ble (n+ys.length) n=false:=by
           cases hq:Nat.ble (n+ys.length) n with
           | false=>rfl
           | true =>
             have h0:=zP8 hq;have:ys.length=0:=by omega
             rw[this] at z;cases z
          cases hgr:gr with
          | true =>
            rw[hgr] at e;have hd:=fO (k:=j) ho;have hn:=xG (h:=h.del j) (k:=j) (f:=fun v=>.list el true v v t (xs++ys)) hd.2 ⟨rfl,rfl,by rw[hs];exact congrArg some hw,by omega⟩;refine⟨_,_,pre _ ?_,⟨hd.1.trans hn.1,hn.2,qID (h0:=h.del j) hnl rfl⟩,e⟩;rw[z,hpos,hgr];simp only[cond_true,cond_false];rw[hw,hnl];rw[hnl] at z2;rw[show (SO.list el true g w t xs).enc.cs=(xs.flatMap t.cells).map .f from rfl,qG6 z2 c1.2,<-aB];rfl
          | false =>
            rw[hgr] at e;have hn:=xG (h:=h) (k:=k) (f:=fun v=>.list el true v v t (xs++ys)) ho ⟨rfl,rfl,by rw[hs];exact congrArg some hw,by omega⟩;refine⟨_,_,pre _ ?_,⟨hn.1,hn.2,qID (h0:=h) hnl rfl⟩,e⟩;rw[z,hpos,hgr];simp only[cond_false];rw[hw,hnl];rw[hnl] at z2;rw[show (SO.list el false g w t xs).enc.cs=(xs.flatMap t.cells).map .f from rfl,qG6 z2 c1.2];rfl
         ·cases e
       ·cases e
      ·cases e
     ·cases e
    ·cases e
   ·cases e
  ·cases e
 ·cases e
end
end Go.Sv
namespace Go.Sv
open Go.Idl
variable {base x:SV}{c o:Nat}{ts:List TypeId}
noncomputable section
variable [Gc]
variable [Yl]
variable {P:Program}{h:SH}{R:Type}{r:R}
def tQ {α:Type}(xs ys:List α)(o c:Nat):List α:=xs.take o++(ys.take c++xs.drop (o+c))
omit [Yl] in
theorem qPY {α:Type}{xs ys:List α}(h1:o+c<=xs.length)(h2:c<=ys.length):xs.length=(tQ xs ys o c).length:=by
 simp[tQ];omega
omit [Yl] in
theorem qKU {t:Ty}{xs ys:List t.sem}(h2:c<=ys.length) :
 yI ((xs.flatMap t.cells).map PV.f) (o*t.w) (((ys.flatMap t.cells).map PV.f).take (c*t.w))=((tQ xs ys o c).flatMap t.cells).map PV.f:=by
 have hl:(((ys.flatMap t.cells).map PV.f).take (c*t.w)).length=c*t.w:=by
  rw[zQ3,zP5,zT];exact zRO (zQ6 _ h2)
 unfold yI;rw[hl,<-zSJ,<-zR6,<-zR6,<-zSD,gM,gM,gI];unfold tQ;simp[zS6,zQ0]
def q6E (P:Program)(ts:List TypeId)(base x:SV)(h:SH)(K:SV->SH->zGM R):zGM R:=match ts with
 | [st,xt]=>(match zQ P st,zQ P xt with
   | some el,some _=>(match szT P el,qBV P 8 el with
     | some (s+1),some t=>cond (Nat.beq t.w (s+1)) (match qX0 t x h with
       | some ys=>(match base with
         | .own j g n=>(match slk j h.l with
           | some (.list el' gr g' _ u xs)=>cond (Nat.beq el' el&&Nat.beq g g') (match qD8 u t xs with
             | some xs=>K (.d (.int .i64) ((Nat.min ys.length n:Nat):Int)) (h.put j fun v=>.list el gr g v t (tQ xs ys 0 (Nat.min ys.length n)))
             | none=>.fail) .fail
           | _=>.fail)
         | .sl j g n o m=>(match slk j h.l with
           | some (.list el' gr g' _ u xs)=>cond (Nat.beq el' el&&Nat.beq g g') (match qD8 u t xs with
             | some xs=>K (.d (.int .i64) ((Nat.min ys.length m:Nat):Int)) (h.put j fun v=>.list el gr g v t (tQ xs ys o (Nat.min ys.length m)))
             | none=>.fail) .fail
           | _=>.fail)
         | .d (.list _ _) xs=>.ite (Nat.beq (List.length xs) 0) (K (.d (.int .i64) 0) h) .fail
         | .c (.slice none 0 _)=>K (.d (.int .i64) 0) h
         | _=>.fail)
       | none=>.fail) .fail
     | _,_=>.fail)
   | _,_=>.fail)
 | _=>.fail
theorem q18 {K:SV->SH->zGM R}(ho:OkH P h)(hb:base.ok h)(hx:x.ok h)(e:(q6E P ts base x h K).run=some r) :
 ∃ v h',qHS P ts base.enc x.enc (qC h.l)=some (v.enc,qC h'.l)∧Post P h h' v∧(K v h').run=some r:=by
 unfold q6E at e;split at e
 ·rename_i st xt;split at e
  ·rename_i el el2 hel zIN;split at e
   ·rename_i s t hs hty;have e_:=qE e;clear e;obtain⟨c1,e⟩:=e_;have hw:s+1=t.w:=(zPZ c1).symm;split at e
    ·rename_i ys hys;have hnw:mX P (s+1) x.enc (qC h.l)=some (ys.length,(ys.flatMap t.cells).map .f):=hw ▸ qG5 ho hx hys;have hlen:((ys.flatMap t.cells).map PV.f).length=ys.length*(s+1):=by rw[zP5,zT,hw]
     have key:∀ {j g n o m w:Nat} {gr:Bool} {xs:List t.sem},slk j h.l=some (.list el gr g w t xs)->n=xs.length->o+m<=n ->
      (K (.d (.int .i64) ((Nat.min ys.length m:Nat):Int)) (h.put j fun v=>.list el gr g v t (tQ xs ys o (Nat.min ys.length m)))).run=some r ->
      ∃ v h',qHS P [st,xt] (.own j n o m) x.enc (qC h.l)=some (v.enc,qC h'.l)∧Post P h h' v∧(K v h').run=some r:=by
      intro j g n o m w gr xs hk hn hom e;have hc:Nat.min ys.length m<=ys.length:=Nat.min_le_left _ _;have hc2:Nat.min ys.length m<=m:=Nat.min_le_right _ _;have hp:=vV (f:=fun v=>.list el gr g v t (tQ xs ys o (Nat.min ys.length m))) ho hk ⟨_,rfl,qPY (by omega) hc⟩;refine⟨_,_,?_,⟨hp.1,hp.2,by simp[SV.ok]⟩,e⟩;simp only[qHS,hel,zIN,hs,hnw,zK hk];rw[show (SO.list el gr g w t xs).enc.el=el from rfl,show Nat.beq (n*(s+1)) (SO.list el gr g w t xs).enc.cs.length=true by rw[qU,hw,hn];exact aJ _,hlen,qDS];simp only[aJ,zQU,cond_true];rw[show qC (h.put j fun v=>.list el gr g v t (tQ xs ys o (Nat.min ys.length m))).l=xO j (SO.list el gr g h.next t (tQ xs ys o (Nat.min ys.length m))).enc (qC h.l) from xY j _ _];rw[hw];show some (_,xO j ⟨el,gr,yI ((xs.flatMap t.cells).map PV.f) (o*t.w) _⟩ (qC h.l))=some (_,xO j ⟨el,gr,((tQ xs ys o (Nat.min ys.length m)).flatMap t.cells).map PV.f⟩ (qC h.l));rw[qKU hc];simp[SV.enc,Ty.fv,fvv]
     split at e
     ·rename_i j g n;split at e
      ·rename_i el' gr g' w u xs0 hk;have e_:=qE e;clear e;obtain⟨c2,e⟩:=e_;rw[zPY] at c2;have he:el'=el:=zPZ c2.1;have hg:g=g':=zPZ c2.2;split at e
       ·rename_i xs hxs;have hcast:=uP hxs
        have hk2:slk j h.l=some (.list el gr g w t xs):=by
         rw[hk,he,<-hg];cases hcast;rfl
        simp only[SV.ok] at hb;exact key hk2 (hb.2 _ _ _ _ _ hk2) (by omega) e
       ·cases e
      ·cases e
     ·rename_i j g n o m;split at e
      ·rename_i el' gr g' w u xs0 hk;have e_:=qE e;clear e;obtain⟨c2,e⟩:=e_;rw[zPY] at c2;have he:el'=el:=zPZ c2.1;have hg:g=g':=zPZ c2.2;split at e
       ·rename_i xs hxs;have hcast:=uP hxs
        have hk2:slk j h.l=some (.list el gr g w t xs):=by
         rw[hk,he,<-hg];cases hcast;rfl
        simp only[SV.ok] at hb;exact key hk2 (hb.1.2 _ _ _ _ _ hk2) hb.2 e
       ·cases e
      ·cases e
     ·rename_i el' u xs
      rcases run_ite e with ⟨z,e⟩ | ⟨z,e⟩
      ·refine⟨_,_,?_,⟨.refl _,ho,by simp[SV.ok]⟩,e⟩;have hz:xs=[]:=zQ9.1 (zPZ z);subst hz;simp[qHS,hel,zIN,hs,hnw,SV.enc,Ty.fv,fvv]
      ·cases e
     ·refine⟨_,_,?_,⟨.refl _,ho,by simp[SV.ok]⟩,e⟩;simp[qHS,hel,zIN,hs,hnw,SV.enc,Ty.fv,fvv]
     ·cases e
    ·cases e
   ·cases e
  ·cases e
 ·cases e
def q8D (P:Program)(ts:List TypeId)(base x:SV)(k:Nat)(h:SH)(K:SV->SH->zGM R):zGM R:=match base with
 | .sl j g n o m=>(match ts with
   | [st,xt]=>(match zQ P st,zQ P xt with
     | some el,some _=>(match szT P el,qBV P 8 el with
       | some (s+1),some t=>cond (Nat.beq t.w (s+1)&&Nat.beq o 0) (match qX0 t x h with
         | some ys=>(match slk j h.l with
           | some (.list el' gr g' _ u xs)=>cond (Nat.beq el' el&&Nat.beq g g') (match qD8 u t xs with
             | some xs=>.ite (Nat.beq ys.length 0) (K base h)
                (.ite (Nat.ble (m+ys.length) n) (K (.sl j g n 0 (m+ys.length)) (h.put j fun v=>.list el gr g v t (tQ xs ys m ys.length)))
                  (.ite (Nat.beq m n) (qHV P ts (.own j g n) x k h K) .fail))
             | none=>.fail) .fail
           | _=>.fail)
         | none=>.fail) .fail
       | _,_=>.fail)
     | _,_=>.fail)
   | _=>.fail)
 | base=>qHV P ts base x k h K
theorem q2E {k:Nat}{K:SV->SH->zGM R}(ho:OkH P h)(hb:base.ok h)(hx:x.ok h)(e:(q8D P ts base x k h K).run=some r) :
 ∃ v h',zV P ts base.enc x.enc k (qC h.l)=some (v.enc,qC h'.l)∧Post P h h' v∧(K v h').run=some r:=by
 unfold q8D at e;split at e
 case h_2=>exact qEH ho hb hx e
 rename_i j g n o m;split at e
 case h_2=>cases e
 rename_i st xt;split at e
 case h_2=>cases e
 rename_i el el2 hel zIN;split at e
 case h_2=>cases e
 rename_i s t hs hty;obtain⟨c1,e1⟩:=qE e;rw[zPY] at c1;have hw:s+1=t.w:=(zPZ c1.1).symm;have h0:o=0:=zPZ c1.2;subst h0;split at e1
 case h_2=>cases e1
 rename_i ys hys;have hnw:mX P (s+1) x.enc (qC h.l)=some (ys.length,(ys.flatMap t.cells).map .f):=hw ▸ qG5 ho hx hys;split at e1
 case h_2=>cases e1
 rename_i el' gr g' w u xs0 hk;obtain⟨c2,e2⟩:=qE e1;rw[zPY] at c2;have he:el'=el:=zPZ c2.1;have hg:g=g':=zPZ c2.2;split at e2
 case h_2=>cases e2
 rename_i xs hxs;have hcast:=uP hxs
 have hk2:slk j h.l=some (.list el gr g w t xs):=by
  rw[hk,he,<-hg];cases hcast;rfl
 simp only[SV.ok] at hb;have hnl:n=xs.length:=hb.1.2 _ _ _ _ _ hk2;have hlen:((ys.flatMap t.cells).map PV.f).length=ys.length*(s+1):=by rw[zP5,zT,hw]
 rcases run_ite e2 with ⟨z,e3⟩ | ⟨z,e3⟩
 ·refine⟨_,_,?_,⟨.refl _,ho,by simp only[SV.ok];exact hb⟩,e3⟩;simp only[zV,hel,zIN,hs,SV.enc,hnw,zK hk2];rw[show (SO.list el gr g w t xs).enc.el=el from rfl,show Nat.beq (n*(s+1)) (SO.list el gr g w t xs).enc.cs.length=true by rw[qU,hw,hnl];exact aJ _];simp only[aJ,zQU,cond_true,z]
 ·rcases run_ite e3 with ⟨z2,e4⟩ | ⟨z2,e4⟩
  ·have hle:=zP8 z2;have hp:=vV (f:=fun v=>.list el gr g v t (tQ xs ys m ys.length)) ho hk2 ⟨_,rfl,qPY (by omega) (zP0 _)⟩;refine⟨_,_,?_,⟨hp.1,hp.2,?_⟩,e4⟩
   ·simp only[zV,hel,zIN,hs,SV.enc,hnw,zK hk2];rw[show (SO.list el gr g w t xs).enc.el=el from rfl,show Nat.beq (n*(s+1)) (SO.list el gr g w t xs).enc.cs.length=true by rw[qU,hw,hnl];exact aJ _,hlen,qDS];simp only[aJ,zQU,cond_true,z,z2,cond_false];rw[show qC (h.put j fun v=>.list el gr g v t (tQ xs ys m ys.length)).l=xO j (SO.list el gr g h.next t (tQ xs ys m ys.length)).enc (qC h.l) from xY j _ _];rw[hw];show some (_,xO j ⟨el,gr,yI ((xs.flatMap t.cells).map PV.f) (m*t.w) _⟩ (qC h.l))=some (_,xO j ⟨el,gr,((tQ xs ys m ys.length).flatMap t.cells).map PV.f⟩ (qC h.l));rw[<-qKU (zP0 _),zQT (by rw[zP5,zT];exact zP0 _)]
   ·simp only[SV.ok];exact⟨hb.1.keep hp.1,by omega⟩
  ·rcases run_ite e4 with ⟨z3,e5⟩ | ⟨_,e5⟩
   ·have hmn:m=n:=zPZ z3;subst hmn;have:=qEH (base:=.own j g m) ho (by simp only[SV.ok];exact hb.1) hx e5;simpa only[SV.enc] using this
   ·cases e5
def qT7 (most:Nat)(i:Int):Option Nat:=if 0<=i∧i<=(most:Int) then some i.toNat else none
def qQW (d most:Nat)(x:Option SV)(K:Nat->zGM R):zGM R:=match x with
 | none=>K d
 | some v=>(match asI v with
   | some (_,i)=>.bind (qT7 most i) K
   | none=>.fail)
theorem vY {d most:Nat}{x:Option SV}{K:Nat->zGM R}(e:(qQW d most x K).run=some r):∃ n,bnd d most (x.map SV.enc)=some n∧(n=d∨n<=most)∧(K n).run=some r:=by
 unfold qQW at e;split at e
 ·exact⟨d,rfl,.inl rfl,e⟩
 ·rename_i v;split at e
  ·rename_i k i hi;have e_:=run_bind e;clear e;obtain⟨n,hn,e⟩:=e_;refine⟨n,?_,.inr ?_,e⟩
   ·simp only[zQC,yC hi,fvv,bnd];exact hn
   ·unfold qT7 at hn;split at hn
    ·cases hn;omega
    ·cases hn
  ·cases e
def qYO (P:Program)(t:TypeId)(x:SV)(lo hi:Option SV)(h:SH)(K:SV->zGM R):zGM R:=match x with
 | .d (.list el u) xs=>(match zQ P t,szT P el with
   | some el',some s=>cond (Nat.beq el' el&&Nat.beq s u.w) (qQW (List.length xs) (List.length xs) hi fun b=>qQW 0 b lo fun a=>K (.d (.list el u) ((List.drop a xs).take (b - a)))) .fail
   | _,_=>.fail)
 | .c (.slice none 0 0)=>(match zQ P t with
   | some el=>cond (szT P el).isSome (qQW 0 0 hi fun _=>qQW 0 0 lo fun _=>K x) .fail
   | none=>.fail)
 | .own k g n=>(match zQ P t,slk k h.l with
   | some el',some (.list el _ g' _ u _)=>cond (Nat.beq el' el&&Nat.beq g g') (qQW n n hi fun b=>qQW 0 b lo fun a =>
      .ite (Nat.beq a 0) (K (.sl k g n 0 b)) (.ite (Nat.beq a b) (K (.d (.list el u) [])) (K (.sl k g n a (b - a))))) .fail
   | _,_=>.fail)
 | .sl k g n o m=>(match zQ P t,slk k h.l with
   | some el',some (.list el _ g' _ u _)=>cond (Nat.beq el' el&&Nat.beq g g') (qQW m m hi fun b=>qQW 0 b lo fun a =>
      .ite (Nat.beq a 0) (K (.sl k g n o b)) (.ite (Nat.beq a b) (K (.d (.list el u) [])) (K (.sl k g n (o+a) (b - a))))) .fail
   | _,_=>.fail)
 | .ref k 0 w=>(match qRT P t,slk k h.l with
   | some (m,el2),some (.spc v (.arr el _ xs))=>(match szT P el2 with
     | some 1=>cond (!Nat.beq el2 el&&Nat.beq m w) (.ite (Nat.beq w (List.length xs)) (qQW m m hi fun b=>qQW 0 b lo fun a=>.ite (Nat.beq a 0&&Nat.beq b m) (K (.asl el2 k v m)) .fail) .fail) .fail
     | _=>.fail)
   | _,_=>.fail)
 | _=>.fail
theorem qWC {t:TypeId}{lo hi:Option SV}{K:SV->zGM R}(ho:OkH P h)(hx:x.ok h)(e:(qYO P t x lo hi h K).run=some r) :
 ∃ v,wS P t x.enc (lo.map SV.enc) (hi.map SV.enc) (qC h.l)=some v.enc∧v.ok h∧(K v).run=some r:=by
 unfold qYO at e
 have key:∀ {k g n o m w:Nat} {gr:Bool} {el el':TypeId} {u:Ty} {xs:List u.sem},slk k h.l=some (.list el gr g w u xs)->n=xs.length->o+m<=n->g < h.next->zQ P t=some el'->Nat.beq el' el=true ->
  ∀ a b,bnd m m (hi.map SV.enc)=some b->b<=m->bnd 0 b (lo.map SV.enc)=some a->a<=b ->
  (zGM.ite (Nat.beq a 0) (K (.sl k g n o b)) (.ite (Nat.beq a b) (K (.d (.list el u) [])) (K (.sl k g n (o+a) (b - a))))).run=some r ->
  ∃ v,wS P t (.own k n o m) (lo.map SV.enc) (hi.map SV.enc) (qC h.l)=some v.enc∧v.ok h∧(K v).run=some r:=by
  intro k g n o m w gr el el' u xs hk hn hom hg hel hbe a b hb hbm ha hab e;have hl:=ho.list _ _ _ _ _ _ _ hk
  have pre:wS P t (.own k n o m) (lo.map SV.enc) (hi.map SV.enc) (qC h.l)=some (cond (Nat.beq a 0) (.own k n o b) (cond (Nat.beq a b) (.f (.l el 0 [])) (.own k n (o+a) (b - a)))):=by
   simp only[wS,zK hk,hel];rw[show (SO.list el gr g w u xs).enc.el=el from rfl,hl.2.1,hb];simp only[ha,qU,hn,aJ,hbe,zQU,cond_true]
  have hsl:qVE h k g n:=⟨hg,fun el2 gr2 w2 t2 xs2 hk2=>by
   rw[hk] at hk2;cases hk2
   exact hn⟩
  rw[pre]
  rcases run_ite e with ⟨z,e⟩ | ⟨z,e⟩
  ·exact⟨_,by rw[z];simp[SV.enc],by simp only[SV.ok];exact⟨hsl,by omega⟩,e⟩
  ·rcases run_ite e with ⟨z2,e⟩ | ⟨z2,e⟩
   ·exact⟨_,by rw[z,z2];simp[SV.enc,Ty.fv],by simp[SV.ok],e⟩
   ·exact⟨_,by rw[z,z2];simp[SV.enc],by simp only[SV.ok];exact⟨hsl,by omega⟩,e⟩
 split at e
 ·rename_i el u xs;split at e
  ·rename_i el' s hel hs;have e_:=qE e;clear e;obtain⟨c1,e⟩:=e_;rw[zPY] at c1;have hw:s=u.w:=zPZ c1.2;have he:el'=el:=zPZ c1.1;subst hw he;obtain⟨b,hb,hb2,e1⟩:=vY e;obtain⟨a,ha,ha2,e2⟩:=vY e1;have hbl:b<=xs.length:=by rcases hb2 with q | q <;> omega
   have hab:a<=b:=by rcases ha2 with q | q <;> omega
   refine⟨_,?_,by simp[SV.ok],e2⟩;simp only[SV.enc,Ty.fv,wS,hel,hs,hb,ha,aJ,zT,zQU,cond_true];rw[gI,gM]
   cases hq:Nat.beq a b with
   | true =>
     have:a=b:=zPZ hq;subst this;simp
   | false =>
     simp only[cond_false,zQ3,zSP];rw[zRO (by omega)]
  ·cases e
 ·split at e
  ·rename_i el hel;have e_:=qE e;clear e;obtain⟨c1,e⟩:=e_;obtain⟨b,hb,hb2,e1⟩:=vY e;obtain⟨a,ha,ha2,e2⟩:=vY e1;refine⟨_,?_,by simp[SV.ok],e2⟩;have hb':bnd 0 0 (hi.map SV.enc)=some b:=hb;simp only[SV.enc,fvv,wS,hel,hb',ha,c1,cond_true]
  ·cases e
 ·rename_i k g n;split at e
  ·rename_i el' el gr g' w u xs hel hk;have e_:=qE e;clear e;obtain⟨c1,e⟩:=e_;rw[zPY] at c1;have hg:g=g':=zPZ c1.2;subst hg;obtain⟨b,hb,hb2,e1⟩:=vY e;obtain⟨a,ha,ha2,e2⟩:=vY e1;simp only[SV.ok] at hx;refine key hk (hx.2 _ _ _ _ _ hk) (by omega) hx.1 hel c1.1 a b hb (by rcases hb2 with q | q <;> omega) ha (by rcases ha2 with q | q <;> omega) ?_;rw[zQI];exact e2
  ·cases e
 ·rename_i k g n o m;split at e
  ·rename_i el' el gr g' w u xs hel hk;have e_:=qE e;clear e;obtain⟨c1,e⟩:=e_;rw[zPY] at c1;have hg:g=g':=zPZ c1.2;subst hg;obtain⟨b,hb,hb2,e1⟩:=vY e;obtain⟨a,ha,ha2,e2⟩:=vY e1;simp only[SV.ok] at hx;exact key hk (hx.1.2 _ _ _ _ _ hk) hx.2 hx.1.1 hel c1.1 a b hb (by rcases hb2 with q | q <;> omega) ha (by rcases ha2 with q | q <;> omega) e2
  ·cases e
 ·rename_i k w;split at e
  ·rename_i m el2 v el ik xs ha hk;split at e
   ·rename_i hs;obtain⟨c1,e0⟩:=qE e;rw[zPY,zQX] at c1;have hmw:=zPZ c1.2;subst hmw
    rcases run_ite e0 with ⟨z,e1⟩ | ⟨_,e1⟩
    ·obtain⟨b,hb,_,e2⟩:=vY e1;obtain⟨a,hal,_,e3⟩:=vY e2
     rcases run_ite e3 with ⟨z2,e4⟩ | ⟨_,e4⟩
     ·rw[zPY] at z2;have h0:=zPZ z2.1;have h1:=zPZ z2.2;subst h0 h1;refine⟨_,?_,?_,e4⟩
      ·simp only[SV.enc,wS,zK hk,ha,hs,hb,hal];show cond (Nat.beq el2 el&&_) _ (cond (Nat.beq b (xs.map fun x=>fvv (.int ik x)).length&&(Nat.beq b b&&(Nat.beq 0 0&&(!false&&(Nat.beq 0 0&&Nat.beq b b))))) _ _)=_;rw[c1.1,zP5,z];simp only[Bool.false_and,cond_false,aJ,zQU,Bool.not_false,cond_true]
      ·simp only[SV.ok];refine⟨ho.ver _ _ hk,fun ob hob _=>?_⟩;rw[hk] at hob;cases hob;exact⟨_,_,_,rfl,zPZ z⟩
     ·cases e4
    ·cases e1
   ·cases e
  ·cases e
 ·cases e
end
end Go.Sv
namespace Go.Sv
open Go.Idl
variable [Gc]
variable {P:Program}{t t2:TypeId}{a b:ByteArray}{ph:PHp}
theorem cO {v:Value}(h3:qKH v=true)(h4:ofC v=fvv v):qY3 (qB8 H00 v)=some (fvv v):=by
 unfold qB8;rw[h3];show some (ofC v)=_;rw[h4]
theorem qM5 {op:BinOp}{v:Value}(h1:zG2 P (cop (.binOp op t (.const (.string a)) (.const (.string b)) t2)) op t (.string a) (.string b) [] H00=jE P (cop (.binOp op t (.const (.string a)) (.const (.string b)) t2)) [] H00)
 (h2:yU P (execOp (Env.val []) (cop (.binOp op t (.const (.string a)) (.const (.string b)) t2)))=some (.value v)) (h3:qKH v=true) (h4:ofC v=fvv v):wR P op t t2 (fvv (.string a)) (fvv (.string b)) ph=some (fvv v):=by
 unfold wR;simp only[fvv,pl,zDD,cond_false];show qY3 (zG2 P _ op t (.string a) (.string b) [] H00)=_;rw[h1];unfold jE;have:zP (jA (Env.val []) (cop (.binOp op t (.const (.string a)) (.const (.string b)) t2)).op.operands.toList)=true:=rfl;rw[if_pos this,h2];exact cO h3 h4
theorem q84 (hl:a.size+b.size<=9223372036854775807):wR P .add t t2 (fvv (.string a)) (fvv (.string b)) ph=some (fvv (.string (a++b))):=by
 refine qM5 rfl ?_ rfl rfl;have hm:IntKind.i64.max=9223372036854775807:=rfl;have:¬ (((a.size+b.size:Nat):Int) > IntKind.i64.max):=by rw[hm];omega
 show yU P (do eqGuard .add t (.const (.string a)) (.const (.string b)) (.string a) (.string b);let v <- Op.stringOp .add a b;pure (Next.value v))=_;unfold Op.stringOp;simp only[this,if_false];rfl
theorem q8J:wR P .eql t t2 (fvv (.string a)) (fvv (.string b)) ph=some (fvv (.bool (a.toList==b.toList))):=qM5 rfl rfl rfl rfl
theorem q6Z:wR P .neq t t2 (fvv (.string a)) (fvv (.string b)) ph=some (fvv (.bool (!(a.toList==b.toList)))):=qM5 rfl rfl rfl rfl
theorem dB {α β:Type}(s:Sem α)(g:α->Sem β):yU P (s >>= g)=(yU P s).bind fun a=>yU P (g a):=jF g s
theorem dP {α:Type}(a:α):yU P (pure a:Sem α)=some a:=rfl
theorem q0O {ts:Array TypeId}(hs:q0A P ts=true):∃ t,ts[0]?=some t∧P.underlying t=some .string:=by
 unfold q0A at hs
 cases h0:ts[0]? with
 | none=>rw[h0] at hs;cases hs
 | some t =>
   rw[h0] at hs;simp only[zQO] at hs;split at hs
   ·rename_i hq;exact⟨t,rfl,hq⟩
   ·cases hs
theorem zBT {t:TypeId}{ts:Array TypeId}{ty:TypeId}(h0:ts[0]?=some t)(hu:P.underlying t=some .string):yU P (Go.Builtin.len_ ts ty #[.string a])=some (goInt a.size):=by
 unfold Go.Builtin.len_;simp only[h0,dB,zZ,hu,zQO,zR3,zQV];rfl
theorem qPL {x:Operand}{ts:Array TypeId}{ty:TypeId}{env:Env}(hs:q0A P ts=true)(hx:env.val x=.string a) :
 qY3 (jE P (cop (.call ⟨.builtin .len,#[x],ts⟩) ty) env H00)=some (fvv (.int .i64 (a.size:Int))):=by
 have h2:jA env.val (cop (.call ⟨.builtin .len,#[x],ts⟩) ty).op.operands.toList=[env.val x]:=rfl;unfold jE;rw[h2];obtain⟨t,h0,hu⟩:=q0O hs;have hp:zP [env.val x]=true:=by rw[hx];rfl
 rw[if_pos hp]
 have he:yU P (execOp env.val (cop (.call ⟨.builtin .len,#[x],ts⟩) ty))=some (.value (goInt a.size)):=by
  simp only[cop,execOp,resolve,List.map_toArray,zQG,zSA,hx];show yU P (do let v <- Go.Builtin.len_ ts ty #[.string a];pure (Next.value v))=_;rw[dB,zBT h0 hu];rfl
 rw[he];exact cO rfl rfl
def q6V (s:ByteArray)(i:Int):Option Int:=if 0<=i then (s[i.toNat]?).map fun b=>(b.toNat:Int) else none
theorem q0Y {t:TypeId}{s:ByteArray}{k:IntKind}{i c:Int}{ty:TypeId}(hu:P.underlying t=some .string)(h:q6V s i=some c):qOM P (.index t (.const (.string s)) (.const (.int k i))) ty=some (fvv (.int .u8 c)):=by
 unfold qOM jE;have hp:zP (jA (Env.val []) (cop (.index t (.const (.string s)) (.const (.int k i))) ty).op.operands.toList)=true:=rfl;rw[if_pos hp]
 have he:yU P (execOp (Env.val []) (cop (.index t (.const (.string s)) (.const (.int k i))) ty))=some (.value (.int .u8 c)):=by
  show yU P (do let v <- Instr.index t (.string s) (.int k i);pure (Next.value v))=_;unfold q6V at h;split at h
  ·rename_i hc;obtain⟨b,hb,rfl⟩:=zP9.1 h;unfold Instr.index;simp only[dB,zZ,hu,zQO];have h0:yU P (asIntOf (.int k i))=some (k,i):=rfl;rw[h0];simp only[zQO,if_pos hc,hb,dP]
  ·cases h
 rw[he];exact cO rfl rfl
theorem qAL {k:IntKind}{i:Int}{y n:Nat}{code:BoundsCode}(h:(if 0<=i∧i<=(y:Int) then some i.toNat else none)=some n):yU P (Instr.sliceBound (.int k i) y code)=some n:=by
 unfold Instr.sliceBound;rw[dB];have h0:yU P (asIntOf (.int k i))=some (k,i):=rfl;rw[h0];simp only[zQO];split at h
 ·rename_i hc;rw[if_pos hc];cases h;rfl
 ·cases h
theorem qVW {d most n:Nat}{x:Option PV}(h:bnd d most x=some n):(x=none∧n=d)∨∃ k i,x=some (fvv (.int k i))∧(if 0<=i∧i<=(most:Int) then some i.toNat else none)=some n:=by
 unfold bnd at h;split at h
 ·cases h;exact .inl ⟨rfl,rfl⟩
 ·rename_i k i;exact .inr ⟨k,i,rfl,h⟩
 ·cases h
theorem q00 {t:TypeId}{s:ByteArray}{lo hi:Option Operand}{l u:Nat}{env:List PV}{ty:TypeId}(hu:P.underlying t=some .string)(h1:bnd s.size s.size (hi.map (qJ env))=some u)(h2:bnd 0 u (lo.map (qJ env))=some l) :
 qOM P (.slice t (.const (.string s)) (lo.map fun a=>.const ((pl (qJ env a)).getD undef)) (hi.map fun a=>.const ((pl (qJ env a)).getD undef)) none) ty=some (fvv (.string (s.extract l u))):=by
 have opt:∀ {o:Option Operand} {d most n:Nat},bnd d most (o.map (qJ env))=some n->(o=none∧n=d)∨∃ k i,(o.map fun a=>Operand.const ((pl (qJ env a)).getD undef))=some (.const (.int k i))∧(if 0<=i∧i<=(most:Int) then some i.toNat else none)=some n:=fun {o d most n} h=>by
  rcases qVW h with ⟨q,e⟩ | ⟨k,i,q,e⟩
  ·cases o with
   | none=>exact .inl ⟨rfl,e⟩
   | some a=>cases q
  ·cases o with
   | none=>cases q
   | some a =>
     have q:qJ env a=fvv (.int k i):=by simpa using q
     exact .inr ⟨k,i,by simp[q,fvv,pl],e⟩
 unfold qOM jE
 have hk:∀ (lo' hi':Option Operand) (vl vh:Option Value),lo'.map (Env.val [])=vl->hi'.map (Env.val [])=vh->zP (jA (Env.val []) (cop (.slice t (.const (.string s)) lo' hi' none) ty).op.operands.toList)=true ->
  yU P (Instr.sliceBounds false s.size s.size vl vh none)=some (l,u,s.size)->qY3 (if zP (jA (Env.val []) (cop (.slice t (.const (.string s)) lo' hi' none) ty).op.operands.toList)=true then qGC H00 (yU P (execOp (Env.val []) (cop (.slice t (.const (.string s)) lo' hi' none) ty))) else none)=some (fvv (.string (s.extract l u))):=by
  intro lo' hi' vl vh e1 e2 hp hb;rw[if_pos hp]
  have he:yU P (execOp (Env.val []) (cop (.slice t (.const (.string s)) lo' hi' none) ty))=some (.value (.string (s.extract l u))):=by
   show yU P (do let v <- Instr.sliceAt t (.string s) (lo'.map (Env.val [])) (hi'.map (Env.val [])) none;pure (Next.value v))=_;rw[e1,e2];unfold Instr.sliceAt;simp only[dB,zZ,hu,zQO];unfold Instr.slice;simp only[dB,zZ,hu,zQO];simp only[zUP,zRY,if_false,dB,hb,zQO,dP]
  rw[he];exact cO rfl rfl
 have hB:∀ (vl vh:Option Value),(vh=none∧u=s.size∨∃ k i,vh=some (.int k i)∧(if 0<=i∧i<=(s.size:Int) then some i.toNat else none)=some u)->(vl=none∧l=0∨∃ k i,vl=some (.int k i)∧(if 0<=i∧i<=(u:Int) then some i.toNat else none)=some l) ->
  yU P (Instr.sliceBounds false s.size s.size vl vh none)=some (l,u,s.size):=by
  intro vl vh a b;unfold Instr.sliceBounds;rcases a with ⟨rfl,rfl⟩ | ⟨k,i,rfl,ha⟩ <;> rcases b with ⟨rfl,rfl⟩ | ⟨k',i',rfl,hb⟩ <;> simp only[dB,dP,zQO,zUP,zRY,if_false]
  ·rw[qAL hb];rfl
  ·rw[qAL ha];rfl
  ·rw[qAL ha];simp only[zQO];rw[qAL hb];rfl
 rcases opt h1 with ⟨rfl,e1⟩ | ⟨k,i,e1,f1⟩ <;> rcases opt h2 with ⟨rfl,e2⟩ | ⟨k',i',e2,f2⟩
 ·exact hk none none none none rfl rfl rfl (hB _ _ (.inl ⟨rfl,e1⟩) (.inl ⟨rfl,e2⟩))
 ·rw[e2];exact hk _ none _ none rfl rfl rfl (hB _ _ (.inl ⟨rfl,e1⟩) (.inr ⟨k',i',rfl,f2⟩))
 ·rw[e1];exact hk none _ none _ rfl rfl rfl (hB _ _ (.inr ⟨k,i,rfl,f1⟩) (.inl ⟨rfl,e2⟩))
 ·rw[e1,e2];exact hk _ _ _ _ rfl rfl rfl (hB _ _ (.inr ⟨k,i,rfl,f1⟩) (.inr ⟨k',i',rfl,f2⟩))
theorem q6I {s d:TypeId}{k k':IntKind}{x:Int}{u:TypeDesc}(hs:P.underlying s=some u)(hd:P.underlying d=some (.int k')):bU P (fun a=>.convert s d a) (fvv (.int k x))=some (fvv (.int k' (k'.wrap x))):=by
 have hl:pl (fvv (.int k x))=some (.int k x):=rfl;unfold bU;rw[hl];unfold qOM jE;have hp:zP (jA (Env.val []) (cop (.convert s d (.const (.int k x)))).op.operands.toList)=true:=rfl;simp only[hp,if_true]
 have he:yU P (execOp (Env.val []) (cop (.convert s d (.const (.int k x)))))=some (.value (.int k' (k'.wrap x))):=by
  show yU P (do let v <- convert s d (.int k x);pure (Next.value v))=_;unfold convert;simp only[dB,zZ,hs,hd,zQO];rfl
 rw[he];exact cO rfl rfl
theorem q2A {s d:TypeId}{x:ByteArray}{u:TypeDesc}(hs:P.underlying s=some u)(hd:P.underlying d=some .string):bU P (fun a=>.convert s d a) (fvv (.string x))=some (fvv (.string x)):=by
 have hl:pl (fvv (.string x))=some (.string x):=rfl;unfold bU;rw[hl];unfold qOM jE;have hp:zP (jA (Env.val []) (cop (.convert s d (.const (.string x)))).op.operands.toList)=true:=rfl;simp only[hp,if_true]
 have he:yU P (execOp (Env.val []) (cop (.convert s d (.const (.string x)))))=some (.value (.string x)):=by
  show yU P (do let v <- convert s d (.string x);pure (Next.value v))=_;unfold convert;simp only[dB,zZ,hs,hd,zQO];cases u <;> rfl
 rw[he];exact cO rfl rfl
end Go.Sv
namespace Go.Sv
open Go.Idl
noncomputable section
variable [Gc]
variable [Yl]
variable {P:Program}{h:SH}{R:Type}{r:R}
def qEQ:SV->Option Value
 | .d (.int k) x=>some (.int k x)
 | .d .bool x=>some (.bool x)
 | .d .str x=>some (.string x)
 | .c v=>some v
 | _=>none
theorem rT {v:SV}{a:Value}(e:qEQ v=some a):v.enc=fvv a:=by
 unfold qEQ at e;split at e <;> cases e <;> simp[SV.enc,Ty.fv,fvv]
def qG2:List SV->Option (List Value)
 | []=>some []
 | v::l=>match qEQ v,qG2 l with
   | some a,some b=>some (a::b)
   | _,_=>none
def bM:SV->Option Value
 | .agg l=>(match qG2 l with
   | some vs=>some (.agg vs.toArray)
   | none=>none)
 | v=>qEQ v
theorem qF3:∀ {l:List SV} {vs:List Value},qG2 l=some vs->qJM (qB l)=some vs
 | [],vs,e=>by cases e;simp[qB,qJM]
 | v::l,vs,e=>by
   unfold qG2 at e;split at e
   ·rename_i a b ha hb;cases e;simp only[qB,rT ha,fvv,qJM,pl1,qF3 hb]
   ·cases e
theorem wQ {v:SV}{a:Value}(e:bM v=some a):pl v.enc=some a:=by
 unfold bM at e;split at e
 ·rename_i l;split at e
  ·rename_i vs hvs;cases e;simp only[SV.enc,pl,qF3 hvs]
  ·cases e
 ·rw[rT e];rfl
def zF3 (op:BinOp)(a b:ByteArray)(K:SV->zGM R)(F:zGM R):zGM R:=match op with
 | .add=>.ite (Nat.ble (a.size+b.size) 9223372036854775807) (K (.d .str (a++b))) .fail
 | .eql=>K (.d .bool (a.toList==b.toList))
 | .neq=>K (.d .bool (!(a.toList==b.toList)))
 | _=>F
def qP0 (P:Program)(t:TypeId):Bool:=match P.underlying t with
 | some .string=>true
 | _=>false
omit [Yl] in
theorem qEL {t:TypeId}(e:qP0 P t=true):P.underlying t=some .string:=by
 unfold qP0 at e;split at e
 ·assumption
 ·cases e
def qNK (P:Program)(t:TypeId)(s:ByteArray)(ix:SV)(K:SV->zGM R):zGM R:=match asI ix with
 | some (_,i)=>cond (qP0 P t) (.bind (q6V s i) fun c=>K (.d (.int .u8) c)) .fail
 | none=>.fail
def qVZ (P:Program)(t:TypeId)(s:ByteArray)(lo hi:Option SV)(K:SV->zGM R):zGM R :=
 cond (qP0 P t) (qQW s.size s.size hi fun b=>qQW 0 b lo fun a=>K (.d .str (s.extract a b))) .fail
def q3C (P:Program)(s d:TypeId)(x:SV)(K:SV->zGM R)(F:zGM R):zGM R:=match P.underlying s,P.underlying d with
 | some _,some (.int k')=>(match asI x with
   | some (_,a)=>K (.d (.int k') (k'.wrap a))
   | none=>F)
 | some _,some .string=>(match asS x with
   | some a=>K (.d .str a)
   | none=>F)
 | _,_=>F
def Ty.vals:(t:Ty)->List Value->Option (t.sem×List Value)
 | .int k,.int k' x::l=>cond (decide (k'=k)) (some (x,l)) none
 | .bool,.bool x::l=>some (x,l)
 | .str,.string x::l=>some (x,l)
 | .unit,l=>some ((),l)
 | .pair a b,l=>match a.vals l with
   | some (x,l1)=>(match b.vals l1 with
     | some (y,l2)=>some ((x,y),l2)
     | none=>none)
   | none=>none
 | _,_=>none
def Ty.ofV (t:Ty)(v:Value):Option t.sem:=cond t.one (match t.vals [v] with
 | some (x,[])=>some x
 | _=>none) (match v with
 | .agg a=>(match t.vals a.toList with
   | some (x,[])=>some x
   | _=>none)
 | _=>none)
def q3T (t:Ty)(x:t.sem):SV:=cond t.one (.d t x) (.agg (t.svs x))
omit [Yl] in
theorem qB0 (t:Ty)(x:t.sem):(q3T t x).ok h:=by
 unfold q3T
 cases t.one with
 | true=>simp[SV.ok]
 | false=>simp only[cond_false,SV.ok];exact qEY t x
omit [Yl] in
theorem qL0:∀ {a b:List Value},jL okC a=true->jL okC b=true->jL okC (a++b)=true
 | [],_,_,h=>h
 | x::a,b,h1,h2=>by
   rw[xR,zPY] at h1;rw[zR0,xR,h1.1,qL0 h1.2 h2];rfl
omit [Yl] in
theorem dA:∀ {t:Ty} {l l':List Value} {x:t.sem},t.vals l=some (x,l')->∃ us,l=us++l'∧jL okC us=true∧jA fvv us=(t.cells x).map PV.f
 | .int k,l,l',x,e=>by
   cases l with
   | nil=>cases e
   | cons v l =>
     cases v <;> try (cases e;done)
     rename_i k' y;have e:cond (decide (k'=k)) (some ((y:Int),l)) none=some (x,l'):=e
     cases hk:decide (k'=k) with
     | false=>rw[hk] at e;cases e
     | true =>
       rw[hk] at e;cases e;have:k'=k:=by simpa using hk
       subst this;exact⟨[.int k' x],rfl,rfl,rfl⟩
 | .bool,l,l',x,e=>by
   cases l with
   | nil=>cases e
   | cons v l =>
     cases v <;> try (cases e;done)
     cases e;exact⟨[.bool x],rfl,rfl,rfl⟩
 | .str,l,l',x,e=>by
   cases l with
   | nil=>cases e
   | cons v l =>
     cases v <;> try (cases e;done)
     cases e;exact⟨[.string x],rfl,rfl,rfl⟩
 | .unit,l,l',x,e=>by
   have e:some ((),l)=some ((),l'):=by cases l <;> exact e
   cases e;exact⟨[],rfl,rfl,rfl⟩
 | .list _ _,l,l',x,e=>by cases l <;> cases e
 | .raw,l,l',x,e=>by cases l <;> cases e
 | .ol _ _,l,l',x,e=>by cases l <;> cases e
 | .nif,l,l',x,e=>by cases l <;> cases e
 | .pair a b,l,l',x,e=>by
   have e:(match a.vals l with
    | some (x,l1)=>(match b.vals l1 with
      | some (y,l2)=>some ((x,y),l2)
      | none=>none)
    | none=>none)=some (x,l'):=by cases l <;> exact e
   split at e
   ·rename_i x1 l1 h1;split at e
    ·rename_i y l2 h2;cases e;obtain⟨us,rfl,u1,u2⟩:=dA h1;obtain⟨ws,rfl,w1,w2⟩:=dA h2;refine⟨us++ws,by rw[zQ0],?_,?_⟩
     ·exact qL0 u1 w1
     ·show _=(a.cells x1++b.cells y).map PV.f;rw[xI] at u2 w2 ⊢;rw[zRE,zRE,u2,w2]
    ·cases e
   ·cases e
theorem sG {t:Ty}{v:Value}{x:t.sem}(e:t.ofV v=some x):ofC v=(q3T t x).enc:=by
 unfold Ty.ofV at e;unfold q3T
 cases ht:t.one with
 | true =>
   rw[ht] at e;simp only[cond_true] at e ⊢;split at e
   ·rename_i y hy;cases e;obtain⟨us,h1,h2,h3⟩:=dA hy;rw[zRT] at h1;subst h1;rw[Ty.cells_one ht] at h3
    have h3:fvv v=.f (t.fv x):=by
     have:jA fvv [v]=[fvv v]:=rfl;rw[this] at h3;simpa using h3
    have h2:okC v=true:=by
     rw[xR,zPY] at h2;exact h2.1
    have:ofC v=fvv v:=by
     unfold okC at h2;rw[zPY] at h2
     cases v <;> first | (exact absurd h2.2 (by decide)) | skip
     all_goals first | (show q65 _=_;unfold q65 okC;simp[h2.1,h2.2]) | (simp[oneCell] at h2)
    rw[this,h3];simp[SV.enc]
   ·cases e
 | false =>
   rw[ht] at e;simp only[cond_false] at e ⊢;split at e
   ·rename_i a;split at e
    ·rename_i y hy;cases e;obtain⟨us,h1,h2,h3⟩:=dA hy;rw[zRT] at h1;show cond (jL okC a.toList) (PV.agg (jA fvv a.toList)) .unk=_;rw[h1,h2,h3];simp only[cond_true,SV.enc,aA]
    ·cases e
   ·cases e
def smp (x:SV)(h:SH):Option (Nat×List (Value×Value)):=match x with
 | .mp k=>(match slk k h.l with
   | some (.spc _ (.map es))=>some (k,es)
   | _=>none)
 | _=>none
omit [Yl] in
theorem gL:∀ (n:Nat) (es:List (Value×Value)) (i:Nat),(yD n es)[i]?=(es[i]?).map fun p=>(⟨p.1,p.2,n+i⟩:MapEntry)
 | n,[],i=>by simp[yD]
 | n,p::es,0=>by simp[yD]
 | n,p::es,i+1=>by
   show (yD (n+1) es)[i]?=_;rw[gL (n+1) es i];have:n+1+i=n+(i+1):=by omega
   rw[this];simp
omit [Yl] in
theorem qDG:∀ (n:Nat) (es:List (Value×Value)),(yD n es).length=es.length
 | n,[]=>rfl
 | n,p::es=>by
   show (yD (n+1) es).length+1=_;rw[qDG,zQJ]
omit [Yl] in
theorem nU:∀ (n:Nat) (es:List (Value×Value)) (k v:Value),yD n (es++[(k,v)])=yD n es++[⟨k,v,n+es.length⟩]
 | n,[],k,v=>rfl
 | n,p::es,k,v=>by
   show _::yD (n+1) (es++[(k,v)])=_;rw[nU (n+1) es k v];show _=_::(yD (n+1) es++_);rw[zQJ];have:n+1+es.length=n+(es.length+1):=by omega
   rw[this]
omit [Yl] in
theorem qDO (es:List (Value×Value))(i:Nat)(k v:Value)(f:MapEntry->MapEntry)(hf:∀ p,es[i]?=some p->f ⟨p.1,p.2,i⟩=⟨k,v,i⟩):yD 0 (es.set i (k,v))=(yD 0 es).modify i f:=by
 apply zRG;intro j;rw[gL,zUC,gL,zQW,zQI];by_cases hij:i=j
 ·subst hij;rw[if_pos rfl];simp only[if_true]
  cases he:es[i]? with
  | none =>
    have:¬ i < es.length:=fun hl=>by rw[zP2 hl] at he;cases he
    rw[if_neg this];rfl
  | some p =>
    have:=(zP4.1 he).1;rw[if_pos this];simp[hf p he]
 ·rw[if_neg hij];simp only[if_neg hij];cases es[j]? <;> rfl
theorem q36 {x:SV}{k:Nat}{es:List (Value×Value)}(hs:spec P 1000000001=true)(e:smp x h=some (k,es)):gK P x.enc (qC h.l)=some (k,(SpO.map es).enc,es.length,yD 0 es)∧∃ w,slk k h.l=some (.spc w (.map es)):=by
 unfold smp at e;split at e
 ·rename_i k';split at e
  ·rename_i w es' hk;cases e;refine⟨?_,w,hk⟩;simp only[SV.enc,gK,zK hk]
   show cond (spec P 1000000001&&Nat.beq 1000000001 1000000001) (match mapOf (kQ es.length (yD 0 es)) with
    | some (c,es')=>some (k,(SO.spc w (SpO.map es)).enc,c,es')
    | none=>none) none=_
   rw[hs,qIH];rfl
  ·cases e
 ·cases e
def q0Q (P:Program)(kt:TypeId)(k:Value)(es:List (Value×Value)):Option Bool:=(wP P kt k (yD 0 es)).map Option.isSome
def q0N (P:Program)(kt:TypeId)(t:Ty)(k:Value)(es:List (Value×Value)):Option t.sem:=match wP P kt k (yD 0 es) with
 | some (some i)=>(match es[i]? with
   | some p=>t.ofV p.2
   | none=>none)
 | _=>none
def q7Z (ok:Bool)(t:Ty)(x:t.sem)(b:Bool):SV:=cond ok (.tup [q3T t x,.c (.bool b)]) (q3T t x)
theorem qRD {ok b:Bool}{t:Ty}{x:t.sem}{v:Value}(e:t.ofV v=some x):q0W ok v b=(q7Z ok t x b).enc:=by
 unfold q0W q7Z
 cases ok with
 | true=>simp[sG e,SV.enc,qB]
 | false=>exact sG e
omit [Yl] in
theorem qZV {ok b:Bool}{t:Ty}{x:t.sem}:(q7Z ok t x b).ok h:=by
 unfold q7Z
 cases ok with
 | true=>simp only[cond_true,SV.ok,okL,and_true];exact qB0 t x
 | false=>exact qB0 t x
def qN0 (P:Program)(t:TypeId)(m kx:SV)(ok:Bool)(h:SH)(K:SV->zGM R):zGM R:=match P.underlying t,smp m h,bM kx with
 | some (.map kt et),some (_,es),some kv=>(match qBV P 8 et,wT P et with
   | some vt,some z=>(match vt.ofV z with
     | some z0=>cond (spec P 1000000001&&zN z) (.bind (q0Q P kt kv es) fun b=>.ite b (.bind (q0N P kt vt kv es) fun x=>K (q7Z ok vt x true)) (K (q7Z ok vt z0 false))) .fail
     | none=>.fail)
   | _,_=>.fail)
 | _,_,_=>.fail
theorem qTX {t:TypeId}{m kx:SV}{ok:Bool}{K:SV->zGM R}(e:(qN0 P t m kx ok h K).run=some r):∃ v,kU P t m.enc kx.enc ok (qC h.l)=some v.enc∧v.ok h∧(K v).run=some r:=by
 unfold qN0 at e;split at e
 case h_2=>cases e
 rename_i kt et k es kv hu hm hk;split at e
 case h_2=>cases e
 rename_i vt z hvt hz;split at e
 case h_2=>cases e
 rename_i z0 hz0;obtain⟨c,e1⟩:=qE e;rw[zPY] at c;obtain⟨b,hb,e2⟩:=run_bind e1;obtain⟨h1,w,h2⟩:=q36 c.1 hm
 have pre:kU P t m.enc kx.enc ok (qC h.l)=(match wP P kt kv (yD 0 es) with
  | some (some i)=>(match (yD 0 es)[i]? with
    | some e=>some (q0W ok e.val true)
    | none=>none)
  | some none=>some (q0W ok z false)
  | none=>none):=by
  unfold kU;rw[hu,h1,wQ hk];simp only[hz,c.2,cond_true];rfl
 rw[pre];unfold q0Q at hb
 cases hf:wP P kt kv (yD 0 es) with
 | none=>rw[hf] at hb;cases hb
 | some o =>
   rw[hf] at hb
   cases o with
   | none =>
     cases hb;refine⟨_,by simp only[qRD hz0],qZV,e2⟩
   | some i =>
     cases hb;obtain⟨x,hx,e3⟩:=run_bind (show (zGM.bind (q0N P kt vt kv es) fun x=>K (q7Z ok vt x true)).run=some r from e2);unfold q0N at hx;rw[hf] at hx;simp only at hx;split at hx
     ·rename_i p hp;refine⟨_,?_,qZV,e3⟩;simp only[gL,hp,zQC,qRD hx]
     ·cases hx
def qZ9 (P:Program)(kt:TypeId)(k v:Value)(es:List (Value×Value)):Option (List (Value×Value)):=match wP P kt k (yD 0 es) with
 | some (some i)=>(match es[i]? with
   | some p=>cond (Instr.sameBits 10000 p.1 k) (some (es.set i (k,v))) none
   | none=>none)
 | some none=>some (es++[(k,v)])
 | none=>none
def sF (P:Program)(t:TypeId)(m kx x:SV)(h:SH)(K:SV->SH->zGM R):zGM R:=match P.underlying t,smp m h,bM kx,bM x with
 | some (.map kt _),some (k,es),some kv,some xv=>cond (spec P 1000000001&&zB xv) (.bind (qZ9 P kt kv xv es) fun es'=>K (.tup []) (h.put k fun v=>.spc v (.map es'))) .fail
 | _,_,_,_=>.fail
theorem bP {k:Nat}{es es':List (Value×Value)}{w:Nat}(ho:OkH P h)(hk:slk k h.l=some (.spc w (.map es))):Keep h (h.put k fun v=>.spc v (.map es'))∧OkH P (h.put k fun v=>.spc v (.map es')) ∧
 qC (h.put k fun v=>.spc v (.map es')).l=xO k { (SpO.map es).enc with cs:=kQ es'.length (yD 0 es') } (qC h.l):=by
 have:=vV (f:=fun v=>.spc v (.map es')) ho hk rfl;exact⟨this.1,this.2,xY k _ _⟩
theorem qIO {t:TypeId}{m kx x:SV}{K:SV->SH->zGM R}(ho:OkH P h)(e:(sF P t m kx x h K).run=some r) :
 ∃ h',jT P t m.enc kx.enc x.enc (qC h.l)=some (qC h'.l)∧Keep h h'∧OkH P h'∧(K (.tup []) h').run=some r:=by
 unfold sF at e;split at e
 case h_2=>cases e
 rename_i kt et k es kv xv hu hm hkv hxv;obtain⟨c,e1⟩:=qE e;rw[zPY] at c;obtain⟨es',hs,e2⟩:=run_bind e1;obtain⟨h1,w,h2⟩:=q36 c.1 hm;obtain⟨p1,p2,p3⟩:=bP (es':=es') ho h2;refine⟨_,?_,p1,p2,e2⟩;unfold jT;rw[hu,h1,wQ hkv,wQ hxv,p3];simp only[c.2,cond_true];unfold qZ9 at hs
 cases hf:wP P kt kv (yD 0 es) with
 | none=>rw[hf] at hs;cases hs
 | some o =>
   rw[hf] at hs
   cases o with
   | none =>
     cases hs;simp only[nU,zQL,zQJ,zTO,zQI]
   | some i =>
     simp only at hs ⊢;split at hs
     ·rename_i p hp
      cases hb:Instr.sameBits 10000 p.1 kv with
      | false=>rw[hb] at hs;cases hs
      | true =>
        rw[hb] at hs;cases hs;simp only[gL,hp,zQC,hb,cond_true];rw[qDO es i kv xv (fun e=>{ e with key:=kv,val:=xv }) (fun _ _=>rfl),zQP]
     ·cases hs
def zFK (P:Program)(kt:TypeId)(t:Ty)(k z:Value)(es:List (Value×Value)):Option (List (Value×Value)×Nat×t.sem):=match wP P kt k (yD 0 es) with
 | some (some i)=>(match es[i]? with
   | some p=>cond (Instr.sameBits 10000 p.1 k&&q9Y i (wP P kt k (yD 0 (es.set i (k,p.2))))) (match t.ofV p.2 with
     | some x=>some (es.set i (k,p.2),i,x)
     | none=>none) none
   | none=>none)
 | some none=>cond (q9Y es.length (wP P kt k (yD 0 (es++[(k,z)])))) (match t.ofV z with
   | some x=>some (es++[(k,z)],es.length,x)
   | none=>none) none
 | none=>none
def qDD (P:Program)(t:TypeId)(m kx:SV)(h:SH)(K:SV->SH->zGM R):zGM R:=match P.underlying t,smp m h,bM kx with
 | some (.map kt et),some (k,es),some kv=>(match qBV P 8 et,wT P et with
   | some vt,some z=>cond (spec P 1000000001&&zN z) (.bind (zFK P kt vt kv z es) fun q=>K (.tup [q3T vt q.2.2,.d (.int .i64) (q.2.1:Int)]) (h.put k fun v=>.spc v (.map q.1))) .fail
   | _,_=>.fail)
 | _,_,_=>.fail
theorem qLS {t:TypeId}{m kx:SV}{K:SV->SH->zGM R}(ho:OkH P h)(e:(qDD P t m kx h K).run=some r) :
 ∃ v h',kK P t m.enc kx.enc (qC h.l)=some (v.enc,qC h'.l)∧Post P h h' v∧(K v h').run=some r:=by
 unfold qDD at e;split at e
 case h_2=>cases e
 rename_i kt et k es kv hu hm hkv;split at e
 case h_2=>cases e
 rename_i vt z hvt hz;obtain⟨c,e1⟩:=qE e;rw[zPY] at c;obtain⟨q,hs,e2⟩:=run_bind e1;obtain⟨h1,w,h2⟩:=q36 c.1 hm;obtain⟨p1,p2,p3⟩:=bP (es':=q.1) ho h2;refine⟨_,_,?_,⟨p1,p2,?_⟩,e2⟩
 ·unfold kK;rw[hu,h1,wQ hkv,p3];unfold zFK at hs
  cases hf:wP P kt kv (yD 0 es) with
  | none=>rw[hf] at hs;cases hs
  | some o =>
    rw[hf] at hs
    cases o with
    | none =>
      simp only at hs ⊢;obtain⟨hat,hs⟩:=yO hs;split at hs
      ·rename_i x hx;cases hs
       have hat':q9Y (yD 0 es).length (wP P kt kv (yD 0 es++[⟨kv,z,es.length⟩]))=true:=by
        rw[nU,zQI] at hat;rw[qDG];exact hat
       simp only[hf,hz,c.2,hat',zQU,cond_true,nU,zQL,zQJ,zTO,zQI,SV.enc,qB,sG hx,Ty.fv,fvv]
      ·cases hs
    | some i =>
      simp only at hs ⊢;split at hs
      ·rename_i p hp;obtain⟨hb',hs⟩:=yO hs;rw[zPY] at hb';obtain⟨hb,hat⟩:=hb'
       ·split at hs
        ·rename_i x hx;cases hs;rw[qDO es i kv p.2 (fun e=>{ e with key:=kv }) (fun p' hp'=>by rw[hp] at hp';cases hp';rfl)] at hat;simp only[hf,gL,hp,zQC,hb,hat,zQU,cond_true,SV.enc,qB,sG hx,Ty.fv,fvv,zQI];rw[qDO es i kv p.2 (fun e=>{ e with key:=kv }) (fun p' hp'=>by rw[hp] at hp';cases hp';rfl),zQP]
        ·cases hs
      ·cases hs
 ·simp only[SV.ok,okL,and_true];exact qB0 _ _
def qQK (P:Program)(k:Nat)(h:SH)(K:SV->SH->zGM R):zGM R:=cond (spec P 1000000001) (K (.mp k) (h.new k fun v=>.spc v (.map []))) .fail
theorem qMU {k:Nat}{K:SV->SH->zGM R}(ho:OkH P h)(e:(qQK P k h K).run=some r):∃ v h',cZ P k (qC h.l)=some (v.enc,qC h'.l)∧Post P h h' v∧(K v h').run=some r:=by
 obtain⟨c,e1⟩:=qE e;have hp:=xG (k:=k) (f:=fun v=>.spc v (.map [])) ho rfl;refine⟨_,_,?_,⟨hp.1,hp.2,by simp[SV.ok]⟩,e1⟩;unfold cZ;rw[c];simp only[cond_true,qEB,SV.enc];rfl
def q86 (P:Program)(ts:Array TypeId)(x:SV)(h:SH):Option SV:=match smp x h with
 | some (_,es)=>cond (spec P 1000000001&&zCI P ts) (some (.d (.int .i64) ((List.length es:Nat):Int))) none
 | none=>none
theorem q20 {ts:Array TypeId}{x v:SV}(e:q86 P ts x h=some v):qD5 P ts x.enc (qC h.l)=some v.enc∧v.ok h:=by
 unfold q86 at e;split at e
 case h_2=>cases e
 rename_i k es hm
 cases hc:(spec P 1000000001&&zCI P ts) with
 | false=>rw[hc] at e;cases e
 | true =>
   rw[hc] at e;cases e;rw[zPY] at hc;refine⟨?_,by simp[SV.ok]⟩;unfold smp at hm;split at hm
   case h_2=>cases hm
   rename_i k';split at hm
   case h_2=>cases hm
   rename_i w es' hk;cases hm
   have h1:tK P (SV.enc (.mp k)) (qC h.l)=some (kQ es.length (yD 0 es)):=by
    simp only[SV.enc,tK,zK hk];show cond (!false&&(spec P 1000000001&&Nat.beq 1000000001 1000000001)) (some (kQ es.length (yD 0 es))) none=_;rw[hc.1];rfl
   unfold qD5;rw[h1];simp only[hc.2,cond_true,kH,qDG];have:(3*es.length+1) / 3=es.length:=by omega
   rw[this];simp[SV.enc,Ty.fv,fvv]
omit [Yl] in
theorem qJC {p:Value->Bool}:∀ {a b:List Value},jL p a=true->jL p b=true->jL p (a++b)=true
 | [],_,_,h=>h
 | x::a,b,h,h2=>by
   rw[zR0,xR,zPY];rw[xR,zPY] at h;exact⟨h.1,qJC h.2 h2⟩
omit [Yl] in
theorem bV (n:Nat):∀ {t:Ty} {l l':List Value} {x:t.sem},t.vals l=some (x,l')->∃ us,l=us++l'∧jL (xS (n+1)) us=true
 | .int k,l,l',x,e=>by
   cases l with
   | nil=>cases e
   | cons v l =>
     cases v <;> try (cases e;done)
     rename_i k' y;have e:cond (decide (k'=k)) (some ((y:Int),l)) none=some (x,l'):=e
     cases hk:decide (k'=k) with
     | false=>rw[hk] at e;cases e
     | true =>
       rw[hk] at e;cases e;exact⟨[.int k' x],rfl,rfl⟩
 | .bool,l,l',x,e=>by
   cases l with
   | nil=>cases e
   | cons v l =>
     cases v <;> try (cases e;done)
     cases e;exact⟨[.bool x],rfl,rfl⟩
 | .str,l,l',x,e=>by
   cases l with
   | nil=>cases e
   | cons v l =>
     cases v <;> try (cases e;done)
     cases e;exact⟨[.string x],rfl,rfl⟩
 | .unit,l,l',x,e=>by
   have e:some ((),l)=some ((),l'):=by cases l <;> exact e
   cases e;exact⟨[],rfl,rfl⟩
 | .list _ _,l,l',x,e=>by cases l <;> cases e
 | .raw,l,l',x,e=>by cases l <;> cases e
 | .ol _ _,l,l',x,e=>by cases l <;> cases e
 | .nif,l,l',x,e=>by cases l <;> cases e
 | .pair a b,l,l',x,e=>by
   have e:(match a.vals l with
    | some (x,l1)=>(match b.vals l1 with
      | some (y,l2)=>some ((x,y),l2)
      | none=>none)
    | none=>none)=some (x,l'):=by cases l <;> exact e
   split at e
   ·rename_i x1 l1 h1;split at e
    ·rename_i y l2 h2;cases e;obtain⟨us,rfl,u1⟩:=bV n h1;obtain⟨ws,rfl,w1⟩:=bV n h2;exact⟨us++ws,by rw[zQ0],qJC u1 w1⟩
    ·cases e
   ·cases e
omit [Yl] in
theorem qVI {t:Ty}{v:Value}{x:t.sem}(e:t.ofV v=some x):zN v=true:=by
 unfold Ty.ofV at e
 cases ht:t.one with
 | true =>
   rw[ht] at e;simp only[cond_true] at e;split at e
   ·rename_i y hy;obtain⟨us,h1,h2⟩:=bV 2 hy;rw[zRT] at h1;subst h1;rw[xR,zPY] at h2;exact h2.1
   ·cases e
 | false =>
   rw[ht] at e;simp only[cond_false] at e;split at e
   ·rename_i a;split at e
    ·rename_i y hy;obtain⟨us,h1,h2⟩:=bV 1 hy;rw[zRT] at h1;show jL (xS 2) a.toList=true;rw[h1];exact h2
    ·cases e
   ·cases e
omit [Yl] in
theorem qFN:∀ (n:Nat) (es:List (Value×Value)) (i:Nat),(yD n es).find? (·.born==n+i)=(es[i]?).map fun p=>(⟨p.1,p.2,n+i⟩:MapEntry)
 | n,[],i=>by simp[yD]
 | n,p::es,0=>by simp[yD]
 | n,p::es,i+1=>by
   have h:((⟨p.1,p.2,n⟩:MapEntry).born==n+(i+1))=false:=by simp
   have ih:=qFN (n+1) es i;have e:n+1+i=n+(i+1):=by omega
   rw[e] at ih;show List.find? (fun x=>x.born==n+(i+1)) ((⟨p.1,p.2,n⟩:MapEntry)::yD (n+1) es)=_;rw[List.find?_cons,h,ih];simp
def q46 (kt vt:Ty)(i:Nat)(es:List (Value×Value)):Option (kt.sem×vt.sem):=match es[i]? with
 | some p=>(match kt.ofV p.1,vt.ofV p.2 with
   | some x,some y=>some (x,y)
   | _,_=>none)
 | none=>none
def qY1 (P:Program)(x:SV)(h:SH)(K:SV->SH->zGM R):zGM R:=match x with
 | .ref k off w=>(match slk k h.l with
   | some (.spc _ (.mit t j since (last+1) _))=>(match P.underlying t,smp (.mp j) h with
     | some (.map kt vt),some (_,es)=>(match qBV P 8 kt,qBV P 8 vt with
       | some kT,some vT=>cond (spec P 1000000001&&(spec P 1000000002&&(Nat.beq w 4&&(Nat.beq off 0&&Nat.beq (List.length es) since)))) (.bind (q46 kT vT last es) fun p=>K (.tup [q3T kT p.1,q3T vT p.2]) h) .fail
       | _,_=>.fail)
     | _,_=>.fail)
   | _=>.fail)
 | _=>.fail
theorem qZK {x:SV}{K:SV->SH->zGM R}(ho:OkH P h)(e:(qY1 P x h K).run=some r):∃ v,qLZ P x.enc (qC h.l)=some v.enc∧v.ok h∧(K v h).run=some r:=by
 unfold qY1 at e;split at e
 case h_2=>cases e
 rename_i k off w;split at e
 case h_2=>cases e
 rename_i w0 t j since last seen hk;split at e
 case h_2=>cases e
 rename_i kt vt j2 es hu hs;split at e
 case h_2=>cases e
 rename_i kT vT hkT hvT;obtain⟨c,e1⟩:=qE e;simp only[zPY] at c;obtain⟨c1,c2,c3,c4,c5⟩:=c;obtain⟨q,hq,e2⟩:=run_bind e1;obtain⟨h1,_⟩:=q36 c1 hs;unfold q46 at hq;split at hq
 case h_2=>cases hq
 rename_i p hp;split at hq
 case h_2=>cases hq
 rename_i x1 y1 hx1 hy1;cases hq;refine⟨_,?_,?_,e2⟩
 ·have e3:=zPZ c3;have e4:=zPZ c4;subst e3 e4;simp only[SV.enc,qLZ,zK hk]
  show cond (spec P 1000000002&&(Nat.beq 1000000002 1000000002&&(Nat.beq 4 4&&Nat.beq 0 0))) (match gK P (.mp j) (qC h.l) with
   | some (_,_,c,es)=>cond (Nat.beq c (since:Int).toNat&&Nat.ble 1 ((last+1:Nat):Int).toNat) (match es.find? (·.born==((last+1:Nat):Int).toNat - 1) with
     | some e=>cond (zN e.key) (some (PV.tup [ofC e.key,ofC e.val])) none
     | none=>none) none
   | none=>none) none=_
  have h1:gK P (.mp j) (qC h.l)=some (j2,(SpO.map es).enc,es.length,yD 0 es):=h1;rw[h1,c2];have hl:((last+1:Nat):Int).toNat=last+1:=rfl;have hsi:((since:Nat):Int).toNat=since:=rfl;have hf:=qFN 0 es last;simp only[zQI] at hf;rw[hl,hsi];simp only[Nat.add_sub_cancel,hf,hp,c5,zQC];rw[show Nat.ble 1 (last+1)=true from zQH (by omega),show (Nat.beq 1000000002 1000000002)=true from rfl,show (Nat.beq 4 4)=true from rfl,show (Nat.beq 0 0)=true from rfl];simp only[zQU,cond_true,qVI hx1,sG hx1,sG hy1,qB]
 ·simp only[SV.ok,okL];exact⟨qB0 _ _,qB0 _ _,trivial⟩
end
end Go.Sv
namespace Go.Sv
open Go.Idl
variable {a:Int}{b:Bool}{env:List SV}{k:IntKind}{o:Oper}{op:BinOp}{ph:PHp}{s:ByteArray}{t t2 ty:TypeId}{ts:Array TypeId}{x y:SV}
noncomputable section
variable [Gc]
variable [Yl]
variable {P:Program}{h:SH}{R:Type}{r:R}
def q83 (k:IntKind):PV->Option Int
 | .f (.v (.int k' x))=>cond (decide (k'=k)) (some x) none
 | _=>none
def q7O:PV->Option Bool
 | .f (.v (.bool x))=>some x
 | _=>none
def q8C:PV->Option ByteArray
 | .f (.v (.string x))=>some x
 | _=>none
def Ty.zM0:(t:Ty)->PV->Option t.sem
 | .int k,p=>q83 k p
 | .bool,p=>q7O p
 | .str,p=>q8C p
 | .raw,_=>none
 | .ol _ _,_=>none
 | .nif,_=>none
 | .unit,_=>none
 | .list _ _,_=>none
 | .pair _ _,_=>none
omit [Yl] in
theorem q9A:∀ {t:Ty} {p:PV} {x:t.sem},t.zM0 p=some x->p=.f (t.fv x)
 | .int k,p,x,e=>by
   have e1:q83 k p=some x:=e;clear e;unfold q83 at e1;split at e1
   ·rename_i k' y;have e:=e1;clear e1
    cases hk:decide (k'=k) with
    | false=>rw[hk] at e;cases e
    | true =>
      rw[hk] at e;cases e;have:k'=k:=by simpa using hk
      subst this;rfl
   ·cases e1
 | .bool,p,x,e=>by
   have e1:q7O p=some x:=e;clear e;unfold q7O at e1;split at e1
   ·cases e1;rfl
   ·cases e1
 | .str,p,x,e=>by
   have e1:q8C p=some x:=e;clear e;unfold q8C at e1;split at e1
   ·cases e1;rfl
   ·cases e1
 | .unit,_,_,e=>by cases e
 | .list _ _,_,_,e=>by cases e
 | .pair _ _,_,_,e=>by cases e
 | .raw,_,_,e=>by cases e
 | .ol _ _,_,_,e=>by cases e
 | .nif,_,_,e=>by cases e
def Ty.zKH (t:Ty)(o:Option PV):Option t.sem:=o.bind t.zM0
theorem qP5 {t:Ty}{o:Option PV}{x:t.sem}(e:t.zKH o=some x):o=some (SV.d t x).enc:=by
 obtain⟨p,h1,h2⟩:=zRZ.1 e;rw[h1,q9A h2];simp[SV.enc]
def sint (op:BinOp)(k:IntKind)(a b:Int)(K:SV->zGM R)(F:zGM R):zGM R:=match op with
 | .lss=>K (.d .bool (decide (a < b)))
 | .leq=>K (.d .bool (decide (a<=b)))
 | .gtr=>K (.d .bool (decide (b < a)))
 | .geq=>K (.d .bool (decide (b<=a)))
 | .eql=>K (.d .bool (a==b))
 | .neq=>K (.d .bool (a != b))
 | .add=>K (.d (.int k) (k.wrap (a+b)))
 | .sub=>K (.d (.int k) (k.wrap (a - b)))
 | .mul=>K (.d (.int k) (k.wrap (a*b)))
 | .quo=>.bind (qZ7 k a b) fun c=>K (.d (.int k) c)
 | .rem=>.bind (zDV a b) fun c=>K (.d (.int k) c)
 | _=>F
omit [Yl] in
theorem q6W {x y:PV}{a b:Value}(hx:pl x=some a)(hy:pl y=some b):wR P op t t2 x y ph=wR P op t t2 (fvv a) (fvv b) []:=by
 unfold wR;rw[hx,hy];rfl
def qTH (P:Program)(op:BinOp)(t t2 ty:TypeId)(x y:SV)(K:SV->zGM R):zGM R:=match bM x,bM y,qBV P 8 ty with
 | some a,some b,some u=>.bind (u.zKH (wR P op t t2 (fvv a) (fvv b) [])) fun z=>K (.d u z)
 | _,_,_=>.fail
def zFE (P:Program)(t:TypeId)(x y:SV)(h:SH):Option Bool:=match y with
 | .c (.slice none _ _)=>cond (zQ P t).isSome (match x with
   | .own k g n=>(match slk k h.l with
     | some (.list _ gr g' _ _ _)=>cond (Nat.beq g g') (some (gr&&Nat.beq n 0)) none
     | _=>none)
   | .sl k g n _ _=>(match slk k h.l with
     | some (.list _ gr g' _ _ _)=>cond (Nat.beq g g') (some (gr&&Nat.beq n 0)) none
     | _=>none)
   | _=>none) none
 | .c .nilFunc=>cond (qUG P t) (match x with
   | .fn _ _ _=>some false
   | _=>none) none
 | _=>none
theorem qV9 (ho:OkH P h)(hx:x.ok h)(e:zFE P t x y h=some b):qEP P t x.enc y.enc (qC h.l)=some b∧pl x.enc=none:=by
 unfold zFE at e;split at e
 ·rename_i n c
  cases h1:(zQ P t).isSome with
  | false=>rw[h1] at e;cases e
  | true =>
    rw[h1] at e;simp only[cond_true] at e;split at e
    ·rename_i k g n;split at e
     ·rename_i el gr g' w u xs hk
      cases h2:Nat.beq g g' with
      | false=>rw[h2] at e;cases e
      | true =>
        rw[h2] at e;cases e;have hg:g=g':=zPZ h2;subst hg;simp only[SV.ok] at hx;have hn:=hx.2 _ _ _ _ _ hk;have hl:=ho.list _ _ _ _ _ _ _ hk;refine⟨?_,by simp[SV.enc,pl]⟩;simp only[SV.enc,fvv,qEP,h1,cond_true,isNil,zK hk];rw[show (SO.list el gr g w u xs).enc.el=el from rfl,hl.2.1];simp only[qU,hn,aJ,cond_true];rfl
     ·cases e
    ·rename_i k g n o m;split at e
     ·rename_i el gr g' w u xs hk
      cases h2:Nat.beq g g' with
      | false=>rw[h2] at e;cases e
      | true =>
        rw[h2] at e;cases e;have hg:g=g':=zPZ h2;subst hg;simp only[SV.ok] at hx;have hn:=hx.1.2 _ _ _ _ _ hk;have hl:=ho.list _ _ _ _ _ _ _ hk;refine⟨?_,by simp[SV.enc,pl]⟩;simp only[SV.enc,fvv,qEP,h1,cond_true,isNil,zK hk];rw[show (SO.list el gr g w u xs).enc.el=el from rfl,hl.2.1];simp only[qU,hn,aJ,cond_true];rfl
     ·cases e
    ·cases e
 ·cases h1:qUG P t with
  | false=>rw[h1] at e;cases e
  | true =>
    rw[h1] at e;simp only[cond_true] at e;split at e
    ·cases e;exact⟨by simp[SV.enc,fvv,qEP,h1,qRF],by simp[SV.enc,pl]⟩
    ·cases e
 ·cases e
def q6N (P:Program)(t:TypeId)(x y:SV):Option Bool:=match x,y with
 | .d (.ol _ _) xs,.c (.slice none 0 0)=>cond (zQ P t).isSome (some (List.isEmpty xs)) none
 | _,_=>none
theorem qPD (e:q6N P t x y=some b):wR P .eql t t2 x.enc y.enc ph=some (fvv (.bool b))∧wR P .neq t t2 x.enc y.enc ph=some (fvv (.bool !b)):=by
 unfold q6N at e;split at e
 ·rename_i el k xs
  cases h1:(zQ P t).isSome with
  | false=>rw[h1] at e;cases e
  | true =>
    rw[h1] at e;cases e
    cases xs with
    | nil =>
      have hn:qEP P t (fvv (.slice none 0 0)) (fvv (.slice none 0 0)) ph=some true:=by simp only[qEP,fvv,h1,cond_true,isNil]
      have hv:∀ H,VR P (fun _=>True) H (own (fun _=>0) ph) (fvv (.slice none 0 0)) (.slice none 0 0):=fun H=>.f (.v rfl rfl)
      constructor
      ·have:=(qHN (op:=.eql) (o:=cop (.binOp .eql t (.const (.slice none 0 0)) (.const (.slice none 0 0)) t2)) (env:=[]) (hv H00) (hv H00) hn).1;simp only[SV.enc,Ty.fv,fvo];show wR P .eql t t2 (fvv (.slice none 0 0)) (fvv (.slice none 0 0)) ph=_;unfold wR;rw[show pl (fvv (.slice none 0 0))=some (.slice none 0 0) from rfl];simp only[this];rfl
      ·have:=(qHN (op:=.neq) (o:=cop (.binOp .neq t (.const (.slice none 0 0)) (.const (.slice none 0 0)) t2)) (env:=[]) (hv H00) (hv H00) hn).2;simp only[SV.enc,Ty.fv,fvo];show wR P .neq t t2 (fvv (.slice none 0 0)) (fvv (.slice none 0 0)) ph=_;unfold wR;rw[show pl (fvv (.slice none 0 0))=some (.slice none 0 0) from rfl];simp only[this];rfl
    | cons x xs =>
      have hn:qEP P t (.f (fvo el k (x::xs))) (fvv (.slice none 0 0)) ph=some false:=by
       simp only[qEP,fvv,h1,cond_true,fvo,zQS,zR0,isNil]
      constructor
      ·simp only[SV.enc,Ty.fv];show uV P t (.f (fvo el k (x::xs))) (fvv (.slice none 0 0)) ph _=_;unfold uV;rw[hn];rfl
      ·simp only[SV.enc,Ty.fv];show uV P t (.f (fvo el k (x::xs))) (fvv (.slice none 0 0)) ph _=_;unfold uV;rw[hn];rfl
 ·cases e
def q85 (P:Program)(t:TypeId)(x y:SV):Option Bool:=match x,y with
 | .d (.list _ u) xs,.c (.slice none 0 0)=>cond ((zQ P t).isSome&&Nat.blt 0 u.w) (some (List.isEmpty xs)) none
 | _,_=>none
theorem qA1 (e:q85 P t x y=some b) :
 (b=true->wR P .eql t t2 x.enc y.enc ph=some .bq∧wR P .neq t t2 x.enc y.enc ph=some .bq)∧(b=false->wR P .eql t t2 x.enc y.enc ph=some (fvv (.bool false))∧wR P .neq t t2 x.enc y.enc ph=some (fvv (.bool true))):=by
 unfold q85 at e;split at e
 case h_2=>cases e
 rename_i el u xs
 cases h1:((zQ P t).isSome&&Nat.blt 0 u.w) with
 | false=>rw[h1] at e;cases e
 | true =>
   rw[h1] at e;cases e;rw[zPY] at h1;obtain⟨h1,h2⟩:=h1;have h2:0 < u.w:=zP8 h2
   cases xs with
   | nil =>
     have hq:qTN P t (.f (.l el 0 [])) (fvv (.slice none 0 0))=some .bq:=by simp only[qTN,fvv,h1,cond_true]
     have hn:qEP P t (.f (.l el 0 [])) (fvv (.slice none 0 0)) ph=none:=by simp only[qEP,fvv,h1,cond_true,isNil]
     refine⟨fun _=>?_,fun h=>(by cases h)⟩;simp only[SV.enc,Ty.fv,List.flatMap_nil,zTO];constructor
     ·show uV P t (.f (.l el 0 [])) (fvv (.slice none 0 0)) ph _=_;unfold uV;rw[hn];exact hq
     ·show uV P t (.f (.l el 0 [])) (fvv (.slice none 0 0)) ph _=_;unfold uV;rw[hn];exact hq
   | cons x xs =>
     refine⟨fun h=>(by cases h),fun _=>?_⟩
     obtain⟨c,cs,hcs⟩:∃ c cs,List.flatMap u.cells (x::xs)=c::cs:=by
      cases hf:List.flatMap u.cells (x::xs) with
      | nil =>
        have:=congrArg List.length hf;rw[zT,zQJ,zST] at this;simp at this;omega
      | cons c cs=>exact⟨c,cs,rfl⟩
     have hn:qEP P t (.f (.l el (xs.length+1) (c::cs))) (fvv (.slice none 0 0)) ph=some false:=by simp only[qEP,fvv,h1,cond_true,isNil]
     simp only[SV.enc,Ty.fv,hcs,zQJ];constructor
     ·show uV P t (.f (.l el (xs.length+1) (c::cs))) (fvv (.slice none 0 0)) ph _=_;unfold uV;rw[hn]
     ·show uV P t (.f (.l el (xs.length+1) (c::cs))) (fvv (.slice none 0 0)) ph _=_;unfold uV;rw[hn];rfl
def q7U (P:Program)(op:BinOp)(t t2 ty:TypeId)(x y:SV)(h:SH)(K:SV->zGM R):zGM R:=match zFE P t x y h,op with
 | some b,.eql=>K (.d .bool b)
 | some b,.neq=>K (.d .bool (!b))
 | _,_=>qTH P op t t2 ty x y K
def q81 (P:Program)(op:BinOp)(t t2 ty:TypeId)(x y:SV)(h:SH)(K:SV->zGM R):zGM R:=match q85 P t x y,op with
 | some b,.eql=>.ite b (K .bq) (K (.d .bool false))
 | some b,.neq=>.ite b (K .bq) (K (.d .bool true))
 | _,_=>q7U P op t t2 ty x y h K
def zEI (P:Program)(op:BinOp)(t t2 ty:TypeId)(x y:SV)(h:SH)(K:SV->zGM R):zGM R:=match asI x,asI y with
 | some (k,a),some (k',b)=>cond (decide (k=k')) (sint op k a b K (qTH P op t t2 ty x y K)) (qTH P op t t2 ty x y K)
 | _,_=>(match asS x,asS y with
   | some a,some b=>zF3 op a b K (qTH P op t t2 ty x y K)
   | _,_=>(match q6N P t x y,op with
     | some b,.eql=>K (.d .bool b)
     | some b,.neq=>K (.d .bool (!b))
     | _,_=>q81 P op t t2 ty x y h K))
theorem qAR {K:SV->zGM R}(e:(qTH P op t t2 ty x y K).run=some r):∃ v,wR P op t t2 x.enc y.enc (qC h.l)=some v.enc∧v.ok h∧(K v).run=some r:=by
 unfold qTH at e;split at e
 ·rename_i a b u ha hb hu;obtain⟨z,hz,e1⟩:=run_bind e;refine⟨_,?_,by simp[SV.ok],e1⟩;rw[q6W (wQ ha) (wQ hb)];exact qP5 hz
 ·cases e
theorem q3A {K:SV->zGM R}(ho:OkH P h)(hx:x.ok h)(e:(q7U P op t t2 ty x y h K).run=some r):∃ v,wR P op t t2 x.enc y.enc (qC h.l)=some v.enc∧v.ok h∧(K v).run=some r:=by
 unfold q7U at e;split at e
 ·rename_i b hs;obtain⟨h1,h2⟩:=qV9 ho hx hs;refine⟨_,?_,by simp[SV.ok],e⟩;unfold wR;rw[h2];simp[uV,h1,SV.enc,Ty.fv,fvv]
 ·rename_i b hs;obtain⟨h1,h2⟩:=qV9 ho hx hs;refine⟨_,?_,by simp[SV.ok],e⟩;unfold wR;rw[h2];simp[uV,h1,SV.enc,Ty.fv,fvv]
 ·exact qAR e
theorem q0M {K:SV->zGM R}(ho:OkH P h)(hx:x.ok h)(e:(q81 P op t t2 ty x y h K).run=some r):∃ v,wR P op t t2 x.enc y.enc (qC h.l)=some v.enc∧v.ok h∧(K v).run=some r:=by
 unfold q81 at e;split at e
 ·rename_i b hs
  rcases run_ite e with ⟨z,e1⟩ | ⟨z,e1⟩
  ·exact⟨.bq,by rw[((qA1 hs).1 z).1];simp[SV.enc],by simp[SV.ok],e1⟩
  ·exact⟨.d .bool false,by rw[((qA1 hs).2 z).1];simp[SV.enc,Ty.fv,fvv],by simp[SV.ok],e1⟩
 ·rename_i b hs
  rcases run_ite e with ⟨z,e1⟩ | ⟨z,e1⟩
  ·exact⟨.bq,by rw[((qA1 hs).1 z).2];simp[SV.enc],by simp[SV.ok],e1⟩
  ·exact⟨.d .bool true,by rw[((qA1 hs).2 z).2];simp[SV.enc,Ty.fv,fvv],by simp[SV.ok],e1⟩
 ·exact q3A ho hx e
theorem q7S {K:SV->zGM R}(ho:OkH P h)(hx:x.ok h)(e:(zEI P op t t2 ty x y h K).run=some r):∃ v,wR P op t t2 x.enc y.enc (qC h.l)=some v.enc∧v.ok h∧(K v).run=some r:=by
 unfold zEI at e;split at e
 ·rename_i k a k' b ha hb
  cases hk:decide (k=k') with
  | false=>rw[hk] at e;exact qAR e
  | true =>
    rw[hk] at e;have hkk:k=k':=by simpa using hk
    subst hkk;simp only[cond_true] at e;have ha':=yC ha;have hb':=yC hb
    have fin:∀ {v:SV},wR P op t t2 (fvv (.int k a)) (fvv (.int k b)) (qC h.l)=some v.enc->v.ok h->(K v).run=some r->∃ v,wR P op t t2 x.enc y.enc (qC h.l)=some v.enc∧v.ok h∧(K v).run=some r:=fun h1 h2 h3=>⟨_,by rw[ha',hb'];exact h1,h2,h3⟩
    unfold sint at e;split at e
    ·exact fin (v:=.d .bool (decide (a < b))) zC5 (by simp[SV.ok]) e
    ·exact fin (v:=.d .bool (decide (a<=b))) zB2 (by simp[SV.ok]) e
    ·exact fin (v:=.d .bool (decide (b < a))) zA5 (by simp[SV.ok]) e
    ·exact fin (v:=.d .bool (decide (b<=a))) zAQ (by simp[SV.ok]) e
    ·exact fin (v:=.d .bool (a==b)) zAM (by simp[SV.ok]) e
    ·exact fin (v:=.d .bool (a != b)) zC3 (by simp[SV.ok]) e
    ·exact fin (v:=.d (.int k) (k.wrap (a+b))) zAR (by simp[SV.ok]) e
    ·exact fin (v:=.d (.int k) (k.wrap (a - b))) zCR (by simp[SV.ok]) e
    ·exact fin (v:=.d (.int k) (k.wrap (a*b))) zC2 (by simp[SV.ok]) e
    ·obtain⟨c,hc,e1⟩:=run_bind e;exact fin (v:=.d (.int k) c) (zA9 hc) (by simp[SV.ok]) e1
    ·obtain⟨c,hc,e1⟩:=run_bind e;exact fin (v:=.d (.int k) c) (zBC hc) (by simp[SV.ok]) e1
    ·exact qAR e
 ·split at e
  ·rename_i a b ha hb;have ha':=fD ha;have hb':=fD hb;unfold zF3 at e;split at e
   ·rcases run_ite e with ⟨z,e1⟩ | ⟨z,e1⟩
    ·exact⟨.d .str (a++b),by rw[ha',hb',q84 (zP8 z)];simp[SV.enc,Ty.fv,fvv],by simp[SV.ok],e1⟩
    ·cases e1
   ·exact⟨.d .bool (a.toList==b.toList),by rw[ha',hb',q8J];simp[SV.enc,Ty.fv,fvv],by simp[SV.ok],e⟩
   ·exact⟨.d .bool (!(a.toList==b.toList)),by rw[ha',hb',q6Z];simp[SV.enc,Ty.fv,fvv],by simp[SV.ok],e⟩
   ·exact qAR e
  split at e
  ·rename_i b hs;exact⟨_,by rw[(qPD hs).1];simp[SV.enc,Ty.fv,fvv],by simp[SV.ok],e⟩
  ·rename_i b hs;exact⟨_,by rw[(qPD hs).2];simp[SV.enc,Ty.fv,fvv],by simp[SV.ok],e⟩
  exact q0M ho hx e
def qVK (P:Program)(mk:Operand->Op)(ty:TypeId)(x:SV)(K:SV->zGM R):zGM R:=match qEQ x,qBV P 8 ty with
 | some a,some u=>.bind (u.zKH (bU P mk (fvv a))) fun z=>K (.d u z)
 | _,_=>.fail
theorem qRJ {mk:Operand->Op}{K:SV->zGM R}(e:(qVK P mk ty x K).run=some r):∃ v,bU P mk x.enc=some v.enc∧v.ok h∧(K v).run=some r∧∃ a,qEQ x=some a:=by
 unfold qVK at e;split at e
 ·rename_i a u ha hu;obtain⟨z,hz,e1⟩:=run_bind e;exact⟨_,by rw[rT ha];exact qP5 hz,by simp[SV.ok],e1,a,ha⟩
 ·cases e
def sun (P:Program)(op:UnOp)(t ty:TypeId)(x:SV)(K:SV->zGM R):zGM R:=match op,asI x,asB x with
 | .neg,some (k,a),_=>K (.d (.int k) (k.wrap (0 - a)))
 | .not,_,some b=>K (.d .bool (!b))
 | _,_,_=>qVK P (fun a=>.unOp op t a) ty x K
omit [Yl] in
theorem q6L {x:Int}:bU P (fun a=>.unOp .neg t a) (fvv (.int k x))=some (fvv (.int k (k.wrap (0 - x)))):=rfl
theorem zAV {op:UnOp}{K:SV->zGM R}(e:(sun P op t ty x K).run=some r):∃ v,bU P (fun a=>.unOp op t a) x.enc=some v.enc∧v.ok h∧(K v).run=some r:=by
 unfold sun at e;split at e
 ·rename_i k a ha;exact⟨_,by rw[yC ha,q6L];simp[SV.enc,Ty.fv,fvv],by simp[SV.ok],e⟩
 ·rename_i b hb;exact⟨_,by rw[rX hb,zAE];simp[SV.enc,Ty.fv,fvv],by simp[SV.ok],e⟩
 ·obtain⟨v,h1,h2,h3,_⟩:=qRJ (h:=h) e;exact⟨v,h1,h2,h3⟩
def eH (env:List SV)(l:Array Operand):List SV:=l.toList.map (kD env)
theorem gV (env:List SV)(l:Array Operand):l.toList.map (qJ (qB env))=qB (eH env l):=by
 unfold eH;rw[zD (l.toList.map (kD env)),zR9];exact zRJ fun x _=>qO env x
omit [Yl] in
theorem fB (ho:okL h env)(l:Array Operand):okL h (eH env l):=zI.2 fun x hx=>by
 obtain⟨q,_,rfl⟩:=zQR.1 hx;exact nO ho _
def smm (lo:Bool)(x y:SV)(K:SV->zGM R):zGM R:=match asI x,asI y with
 | some (k,a),some (k',b)=>cond (decide (k=k')) (K (.d (.int k) (cond lo (cond (decide (b < a)) b a) (cond (decide (a < b)) b a)))) .fail
 | _,_=>.fail
omit [Yl] in
theorem dmin {x y:Operand}{b:Int}{env:Env}(hx:env.val x=.int k a)(hy:env.val y=.int k b) :
 qY3 (jE P (cop (.call ⟨.builtin .min,#[x,y],ts⟩) ty) env H00)=some (fvv (.int k (if b < a then b else a))):=by
 have h2:jA env.val (cop (.call ⟨.builtin .min,#[x,y],ts⟩) ty).op.operands.toList=[env.val x,env.val y]:=rfl;unfold jE;rw[h2];simp only[cop,execOp,resolve,List.map_toArray,zQG,zSA,hx,hy];rfl
omit [Yl] in
theorem dmax {x y:Operand}{b:Int}{env:Env}(hx:env.val x=.int k a)(hy:env.val y=.int k b) :
 qY3 (jE P (cop (.call ⟨.builtin .max,#[x,y],ts⟩) ty) env H00)=some (fvv (.int k (if a < b then b else a))):=by
 have h2:jA env.val (cop (.call ⟨.builtin .max,#[x,y],ts⟩) ty).op.operands.toList=[env.val x,env.val y]:=rfl;unfold jE;rw[h2];simp only[cop,execOp,resolve,List.map_toArray,zQG,zSA,hx,hy];rfl
omit [Yl] in
theorem qZW {p:Prop}[Decidable p]{α:Type}{x y:α}:cond (decide p) x y=if p then x else y:=by
 by_cases h:p <;> simp[h]
theorem q5F {lo:Bool}{c:Call}{K:SV->zGM R}(hl:eH env c.args=[x,y])(hc:c.callee=.builtin (cond lo .min .max))(e:(smm lo x y K).run=some r) :
 ∃ v,wC P (cond lo .min .max) c [x.enc,y.enc] (qB env) ty (qC h.l)=some (v.enc,qC h.l)∧v.ok h∧(K v).run=some r:=by
 unfold smm at e;split at e
 ·rename_i k a k' b ha hb
  cases hk:decide (k=k') with
  | false=>rw[hk] at e;cases e
  | true =>
    rw[hk] at e;have:k=k':=by simpa using hk
    subst this;have e1:=yC ha;have e2:=yC hb;refine⟨_,?_,by simp[SV.ok],e⟩;obtain⟨cal,args,ts⟩:=c;simp only at hc hl;subst hc;unfold eH at hl
    have hal:∃ p q,args=#[p,q]∧kD env p=x∧kD env q=y:=by
     obtain⟨l⟩:=args
     match l,hl with
     | [p,q],hl=>simp at hl;exact⟨p,q,rfl,hl.1,hl.2⟩
    obtain⟨p,q,rfl,hp,hq⟩:=hal;have vp:(qSI (qB env)).val p=.int k a:=dH P (by rw[qO,hp,e1];rfl);have vq:(qSI (qB env)).val q=.int k b:=dH P (by rw[qO,hq,e2];rfl);unfold wC;rw[e1,e2];have hpl:plL [fvv (.int k a),fvv (.int k b)]=some [.int k a,.int k b]:=rfl;rw[hpl]
    cases lo with
    | true =>
      simp only[cond_true];rw[dmin vp vq,qZW];simp[pp1,SV.enc,Ty.fv,fvv]
    | false =>
      simp only[cond_false];rw[dmax vp vq,qZW];simp[pp1,SV.enc,Ty.fv,fvv]
 ·cases e
def q7V (P:Program)(ts:Array TypeId)(x:SV)(h:SH):Option SV:=match tK P x.enc (qC h.l) with
 | some _=>none
 | none=>zE9 P ts x h
theorem q2N {v:SV}(ho:OkH P h)(hx:x.ok h)(e:q7V P ts x h=some v):qD5 P ts x.enc (qC h.l)=some v.enc∧v.ok h:=by
 unfold q7V at e;split at e
 ·cases e
 ·rename_i hn;unfold qD5;rw[hn];exact q7A ho hx e
theorem qSN {lo hi:Option Operand}{K:SV->zGM R}(e:(qVZ P t s (lo.map (kD env)) (hi.map (kD env)) K).run=some r) :
 ∃ v,qOM P (.slice t (.const (.string s)) (lo.map fun a=>.const ((pl (qJ (qB env) a)).getD undef)) (hi.map fun a=>.const ((pl (qJ (qB env) a)).getD undef)) none)=some v.enc∧v.ok h∧(K v).run=some r∧(plL ((lo.toList++hi.toList).map (qJ (qB env)))).isSome=true:=by
 obtain⟨c,e1⟩:=qE e;obtain⟨b,hb,_,e2⟩:=vY e1;obtain⟨a,ha,_,e3⟩:=vY e2;have m:∀ o:Option Operand,(o.map (kD env)).map SV.enc=o.map (qJ (qB env)):=fun o=>by cases o <;> simp[qO]
 rw[m] at hb ha;refine⟨.d .str (s.extract a b),by rw[q00 (qEL c) hb ha];simp[SV.enc,Ty.fv,fvv],by simp[SV.ok],e3,?_⟩
 have one:∀ {o:Option Operand} {d most n:Nat},bnd d most (o.map (qJ (qB env)))=some n->o=none∨∃ a k i,o=some a∧qJ (qB env) a=fvv (.int k i):=fun {o d most n} h=>by
  rcases qVW h with ⟨q,_⟩ | ⟨k,i,q,_⟩
  ·cases o with
   | none=>exact .inl rfl
   | some a=>cases q
  ·cases o with
   | none=>cases q
   | some a=>exact .inr ⟨a,k,i,rfl,by simpa using q⟩
 rcases one hb with rfl | ⟨x,k,i,rfl,hx⟩ <;> rcases one ha with rfl | ⟨y,k',i',rfl,hy⟩ <;> simp_all [plL,fvv,pl]
theorem qTI {ix:SV}{K:SV->zGM R}(e:(qNK P t s ix K).run=some r) :
 ∃ v k i,ix.enc=fvv (.int k i)∧qOM P (.index t (.const (.string s)) (.const (.int k i)))=some v.enc∧v.ok h∧(K v).run=some r:=by
 unfold qNK at e;split at e
 ·rename_i k i hi;obtain⟨c,e1⟩:=qE e;obtain⟨b,hb,e2⟩:=run_bind e1;exact⟨.d (.int .u8) b,k,i,yC hi,by rw[q0Y (qEL c) hb];simp[SV.enc,Ty.fv,fvv],by simp[SV.ok],e2⟩
 ·cases e
theorem q2K {s d:TypeId}{K:SV->zGM R}{F:zGM R}(e:(q3C P s d x K F).run=some r):(∃ v,bU P (fun a=>.convert s d a) x.enc=some v.enc∧v.ok h∧(K v).run=some r)∨F.run=some r:=by
 unfold q3C at e;split at e
 ·rename_i u k' hs hd;split at e
  ·rename_i k a ha;exact .inl ⟨_,by rw[yC ha,q6I hs hd];simp[SV.enc,Ty.fv,fvv],by simp[SV.ok],e⟩
  ·exact .inr e
 ·rename_i u hs hd;split at e
  ·rename_i a ha;exact .inl ⟨_,by rw[fD ha,q2A hs hd];simp[SV.enc,Ty.fv,fvv],by simp[SV.ok],e⟩
  ·exact .inr e
 ·exact .inr e
def qKY (env:List SV)(parts:Array (Nat×Operand)):List (Nat×SV):=parts.toList.map fun p=>(p.1,kD env p.2)
theorem qEO (env:List SV)(parts:Array (Nat×Operand)):(parts.toList.map fun p=>(p.1,qJ (qB env) p.2))=zAA (qKY env parts):=by
 simp[qKY,zAA,qO]
omit [Yl] in
theorem qKD {env:List SV}(ho:okL h env)(parts:Array (Nat×Operand)):∀ p∈qKY env parts,p.2.ok h:=fun p hp=>by
 obtain⟨q,_,rfl⟩:=zQR.1 hp;exact nO ho _
def qYW:Operand->Operand->Bool
 | .tmp i,.tmp j=>Nat.beq i j
 | .const (.int k a),.const (.int k' b)=>decide (k=k')&&decide (a=b)
 | _,_=>false
omit [Yl] in
theorem qY9 {a b:Operand}(e:qYW a b=true):a=b:=by
 unfold qYW at e;split at e
 ·rw[zPZ e]
 ·rw[zPY] at e;have h1:=of_decide_eq_true e.1;have h2:=of_decide_eq_true e.2;rw[h1,h2]
 ·cases e
def gv (o:Option SV)(h:SH)(K:SV->SH->zGM R):zGM R:=match o with
 | some v=>K v h
 | none=>.fail
def sop (P:Program)(o:Oper)(env:List SV)(k:Nat)(h:SH)(K:SV->SH->zGM R):zGM R:=match o.op with
 | .move x=>K (kD env x) h
 | .assign x=>K (kD env x) h
 | .pick c a b=>(match asB (kD env c) with
   | some t=>.ite t (K (kD env a) h) (K (kD env b) h)
   | none=>.fail)
 | .alloc el=>qY6 P el k h K
 | .box el x=>zFP P el (kD env x) k h K
 | .build t parts=>gv (qV6 P t (qKY env parts)) h K
 | .buildSlice t len parts=>mY P t len (qKY env parts) k h K
 | .load t a=>q9U P t (kD env a) h fun v=>K v h
 | .store t a x=>qVQ P t (kD env a) (kD env x) h K
 | .nilCheck x=>gv (qDQ (kD env x) h) h K
 | .binOp op t x y t2=>zEI P op t t2 o.type (kD env x) (kD env y) h fun v=>K v h
 | .unOp op t x=>sun P op t o.type (kD env x) fun v=>K v h
 | .convert s d x=>cond (qSY (kD env x).enc) .fail (q3C P s d (kD env x) (fun v=>K v h) (qVK P (fun a=>.convert s d a) o.type (kD env x) fun v=>K v h))
 | .makeFunc fn first cap=>gv (qC7 fn (eH env first) (eH env cap)) h K
 | .makeSlice t l c=>cond (qYW l c) (q6A P t (kD env l) k h K) .fail
 | .slice t x lo hi none=>(match asS (kD env x) with
   | some s=>qVZ P t s (lo.map (kD env)) (hi.map (kD env)) fun v=>K v h
   | none=>qYO P t (kD env x) (lo.map (kD env)) (hi.map (kD env)) h fun v=>K v h)
 | .fieldAddr t x i=>gv (sJ P t (kD env x) i h) h K
 | .indexAddr t x ix=>rF P t (kD env x) (kD env ix) h fun v=>K v h
 | .index t x ix=>(match asS (kD env x) with
   | some s=>qNK P t s (kD env ix) fun v=>K v h
   | none=>qXD P t (kD env x) (kD env ix) fun v=>K v h)
 | .extract t i=>gv (qHA (kD env t) i) h K
 | .makeMap _ none=>qQK P k h K
 | .lookup t m kx ok=>qN0 P t (kD env m) (kD env kx) ok h fun v=>K v h
 | .mapUpdate t m kx x=>sF P t (kD env m) (kD env kx) (kD env x) h K
 | .mapEntry t m kx=>qDD P t (kD env m) (kD env kx) h K
 | .call c=>(match c.callee,eH env c.args with
   | .builtin .append,[x,y]=>q8D P c.argTypes.toList x y k h K
   | .builtin .copy,[x,y]=>q6E P c.argTypes.toList x y h K
   | .builtin .len,[x]=>cond (q0A P c.argTypes) (match asS x with
     | some s=>K (.d (.int .i64) (s.size:Int)) h
     | none=>.fail) (match q86 P c.argTypes x h with
     | some v=>K v h
     | none=>gv (q7V P c.argTypes x h) h K)
   | .builtin .min,[x,y]=>smm true x y fun v=>K v h
   | .builtin .max,[x,y]=>smm false x y fun v=>K v h
   | _,_=>.fail)
 | _=>.fail
omit [Yl] in
theorem qSV {o:Option SV}{K:SV->SH->zGM R}(e:(gv o h K).run=some r):∃ v,o=some v∧(K v h).run=some r:=by
 unfold gv at e;split at e
 ·exact⟨_,rfl,e⟩
 ·cases e
theorem q5Z {k:Nat}{K:SV->SH->zGM R}(ho:OkH P h)(he:okL h env)(e:(sop P o env k h K).run=some r) :
 ∃ v h',sO P o (qB env) k (qC h.l)=some (v.enc,qC h'.l)∧Post P h h' v∧(K v h').run=some r:=by
 have same:∀ {v:SV},v.ok h->Post P h h v:=fun hv=>⟨.refl _,ho,hv⟩
 have sv:=fun x=>nO (h:=h) he x
 unfold sop at e;unfold sO;split at e
 ·rename_i x ho';exact⟨_,_,by simp only[ho',qO],same (sv x),e⟩
 ·rename_i x ho';exact⟨_,_,by simp only[ho',qO],same (sv x),e⟩
 ·rename_i c a b ho';split at e
  ·rename_i t ht;have h1:=rX ht
   rcases run_ite e with ⟨z,e1⟩ | ⟨z,e1⟩
   ·exact⟨_,_,by simp only[ho',qO,h1,fvv,z,cond_true],same (sv a),e1⟩
   ·exact⟨_,_,by simp only[ho',qO,h1,fvv,z,cond_false],same (sv b),e1⟩
  ·cases e
 ·rename_i el ho';rw[ho'];exact qWR ho e
 ·rename_i el x ho';rw[ho'];simp only[qO];exact q8F ho (sv x) e
 ·rename_i t parts ho';rw[ho'];obtain⟨v,h1,h2⟩:=qSV e;have h3:=qZE (qKD he parts) h1;exact⟨v,h,by simp only[qEO,h3.1,pp1],same h3.2,h2⟩
 ·rename_i t len parts ho';rw[ho'];simp only[qEO];exact qEC ho (qKD he parts) e
 ·rename_i t a ho';rw[ho'];obtain⟨v,h1,h2,h3⟩:=q2Z ho (sv a) e;exact⟨v,h,by simp only[qO,h1,pp1],same h2,h3⟩
 ·rename_i t a x ho';rw[ho'];obtain⟨h',h1,h2,h3,h4⟩:=qWS ho (sv a) (sv x) e;exact⟨_,h',by simp only[qO,h1,ppS];simp[SV.enc,qB],⟨h2,h3,by simp[SV.ok,okL]⟩,h4⟩
 ·rename_i x ho';rw[ho'];obtain⟨v,h1,h2⟩:=qSV e;have h3:=qKZ (sv x) h1;exact⟨v,h,by simp only[qO,h3.1,pp1],same h3.2,h2⟩
 ·rename_i op t x y t2 ho';rw[ho'];obtain⟨v,h1,h2,h3⟩:=q7S ho (sv x) e;exact⟨v,h,by simp only[qO,h1,pp1],same h2,h3⟩
 ·rename_i op t x ho';rw[ho'];obtain⟨v,h1,h2,h3⟩:=zAV (h:=h) e;exact⟨v,h,by simp only[qO,h1,pp1],same h2,h3⟩
 ·rename_i s d x ho';rw[ho']
  cases hp:qSY (kD env x).enc with
  | true=>rw[hp] at e;cases e
  | false =>
    rw[hp] at e;have e1:(q3C P s d (kD env x) (fun v=>K v h) (qVK P (fun a=>.convert s d a) o.type (kD env x) fun v=>K v h)).run=some r:=e;rcases q2K (h:=h) e1 with ⟨v,h1,h2,h3⟩ | e1
    ·exact⟨v,h,by simp only[qO,hp,cond_false,h1,pp1],same h2,h3⟩
    ·obtain⟨v,h1,h2,h3,_⟩:=qRJ (h:=h) e1;exact⟨v,h,by simp only[qO,hp,cond_false,h1,pp1],same h2,h3⟩
 ·rename_i fn first cap ho'
  rw[ho'];obtain⟨v,h1,h2⟩:=qSV e;have h3:=qI2 (fB he first) (fB he cap) h1;exact⟨v,h,by simp only[gV,h3.1,pp1],same h3.2,h2⟩
 ·rename_i t l c ho';rw[ho'];obtain⟨h1,h2⟩:=qE e;have:=qY9 h1;subst this;simp only[qO];exact q2F ho h2
 ·rename_i t x lo hi ho';rw[ho'];split at e
  ·rename_i s hs;obtain⟨v,h1,h2,h3,h4⟩:=qSN (h:=h) e;obtain⟨vs,hvs⟩:=zQ5.1 h4;refine⟨v,h,?_,same h2,h3⟩;have hx:qJ (qB env) x=.f (.v (.string s)):=by rw[qO];exact fD hs
   simp only[hx,hvs,h1,pp1]
  obtain⟨v,h1,h2,h3⟩:=qWC ho (sv x) e;refine⟨v,h,?_,same h2,h3⟩;have m:∀ o:Option Operand,o.map (qJ (qB env))=(o.map (kD env)).map SV.enc:=fun o=>by cases o <;> simp[qO]
  simp only[qO,m]
  have ns:∀ s,(kD env x).enc≠.f (.v (.string s)):=fun s hs=>by
   rw[hs] at h1;simp only[wS] at h1;cases h1
  split
  ·rename_i s hs;exact absurd hs (ns s)
  ·rw[h1];rfl
 ·rename_i t x i ho';rw[ho'];obtain⟨v,h1,h2⟩:=qSV e;have h3:=qF8 (sv x) h1;exact⟨v,h,by simp only[qO,h3.1,pp1],same h3.2,h2⟩
 ·rename_i t x ix ho';rw[ho'];obtain⟨v,h1,h2,h3⟩:=qGF ho (sv x) e;exact⟨v,h,by simp only[qO,h1,pp1],same h2,h3⟩
 ·rename_i t x ix ho';rw[ho'];split at e
  ·rename_i s hs;obtain⟨v,k',i,h0,h1,h2,h3⟩:=qTI (h:=h) e;refine⟨v,h,?_,same h2,h3⟩;have hx:=fD hs;have hpl:pl (fvv (.int k' i))=some (.int k' i):=rfl;simp only[qO,hx,h0,hpl];simp only[fvv,h1,pp1]
  obtain⟨v,h1,h2,h3,l,hl⟩:=qY4 (sv x) e;refine⟨v,h,?_,same h2,h3⟩;simp only[qO];rw[hl] at h1 ⊢;simp only[SV.enc] at h1 ⊢;rw[h1];rfl
 ·rename_i t i ho';rw[ho'];obtain⟨v,h1,h2⟩:=qSV e;have h3:=qN7 (sv t) h1;exact⟨v,h,by simp only[qO,h3.1,pp1],same h3.2,h2⟩
 ·rename_i ho';rw[ho'];exact qMU ho e
 ·rename_i t m kx ok ho';rw[ho'];obtain⟨v,h1,h2,h3⟩:=qTX e;exact⟨v,h,by simp only[qO,h1,pp1],same h2,h3⟩
 ·rename_i t m kx x ho';rw[ho'];obtain⟨h',h1,h2,h3,h4⟩:=qIO ho e;exact⟨_,h',by simp only[qO,h1,ppS];simp[SV.enc,qB],⟨h2,h3,by simp[SV.ok,okL]⟩,h4⟩
 ·rename_i t m kx ho';rw[ho'];simp only[qO];exact qLS ho e
 ·rename_i c ho';rw[ho'];have ha:=gV env c.args;have hao:=fB he c.args;split at e
  ·rename_i x y hc hl;rw[hl] at ha hao;simp only[okL] at hao;simp only[hc,ha,qB,uM];exact q2E ho hao.1 hao.2.1 e
  ·rename_i x y hc hl;rw[hl] at ha hao;simp only[okL] at hao;simp only[hc,ha,qB,uM];exact q18 ho hao.1 hao.2.1 e
  ·rename_i x hc hl;rw[hl] at ha hao;simp only[okL] at hao
   cases hst:q0A P c.argTypes with
   | true =>
     rw[hst] at e;simp only[cond_true] at e;split at e
     ·rename_i s hs;refine⟨_,h,?_,same (by simp[SV.ok]),e⟩;obtain⟨cal,args,ts⟩:=c;simp only at hc hl hst;subst hc
      obtain⟨p,rfl,hp⟩:∃ p,args=#[p]∧kD env p=x:=by
       unfold eH at hl;obtain⟨l⟩:=args
       match l,hl with
       | [p],hl=>simp at hl;exact⟨p,rfl,hl⟩
      have vp:(qSI (qB env)).val p=.string s:=dH P (by rw[qO,hp,fD hs];rfl);simp only[uM,ha,qB,hst,cond_true];unfold wC;have hpl:plL [x.enc]=some [.string s]:=by rw[fD hs];rfl
      rw[hpl];simp only;rw[qPL hst vp];simp[pp1,SV.enc,Ty.fv,fvv]
     ·cases e
   | false =>
     rw[hst] at e;simp only[cond_false] at e;split at e
     ·rename_i v hv;have h3:=q20 hv;refine⟨v,h,?_,same h3.2,e⟩;simp only[hc,ha,qB,uM,hst,cond_false,h3.1,pp1]
     obtain⟨v,h1,h2⟩:=qSV e;have h3:=q2N ho hao.1 h1;refine⟨v,h,?_,same h3.2,h2⟩;simp only[hc,ha,qB,uM,hst,cond_false,h3.1,pp1]
  ·rename_i x y hc hl;rw[hl] at ha;obtain⟨v,h1,h2,h3⟩:=q5F (h:=h) (lo:=true) (ty:=o.type) hl hc e;exact⟨v,h,by simp only[hc,ha,qB,uM];exact h1,same h2,h3⟩
  ·rename_i x y hc hl;rw[hl] at ha;obtain⟨v,h1,h2,h3⟩:=q5F (h:=h) (lo:=false) (ty:=o.type) hl hc e;exact⟨v,h,by simp only[hc,ha,qB,uM];exact h1,same h2,h3⟩
  ·cases e
 ·cases e
def zFF (P:Program)(o:Oper)(env:List SV)(k:Nat)(h:SH)(K:SV->SH->zGM R):zGM R:=match o.op with
 | .entry it=>qY1 P (kD env it) h K
 | _=>sop P o env k h K
theorem q7W {k:Nat}{K:SV->SH->zGM R}(ho:OkH P h)(he:okL h env)(e:(zFF P o env k h K).run=some r) :
 ∃ v h',q5M P o (qB env) k (qC h.l)=some (v.enc,qC h'.l)∧Post P h h' v∧(K v h').run=some r:=by
 unfold zFF at e;split at e
 ·rename_i it ho';obtain⟨v,h1,h2,h3⟩:=qZK ho e;refine⟨v,h,?_,⟨.refl _,ho,h2⟩,h3⟩;unfold q5M;rw[ho'];simp only[qO,h1,pp1]
 ·obtain⟨v,h',h1,h2,h3⟩:=q5Z ho he e;exact⟨v,h',qVA h1,h2,h3⟩
end
end Go.Sv
namespace Go.Sv
open Go.Idl
variable {as env:List SV}{d k m n o w:Nat}{el ty:TypeId}{g:FuncId}{h':SH}{nm:Nm}{v:SV}
noncomputable section
variable [Gc]
variable [Yl]
variable {P:Program}{h:SH}{R:Type}{r:R}{tab:uZ}
omit [Yl] in
theorem qA4:∀ (cs:List FV) (ph:PHp) (n:Nat),qAF (fz1 P n) (cs.map .f) ph=some (cs,ph)
 | [],ph,n=>rfl
 | c::cs,ph,n=>by
   have e:fz1 P n ph (.f c)=some (c,ph):=by cases n <;> rfl
   show (match fz1 P n ph (.f c) with
    | some (y,ph1)=>(match qAF (fz1 P n) (cs.map .f) ph1 with
      | some (ys,ph2)=>some (y::ys,ph2)
      | none=>none)
    | none=>none)=_
   rw[e];simp only[qA4 cs ph n]
theorem q1F {gr:Bool}{g:Nat}{t:Ty}{xs:List t.sem}(ho:OkH P h)(hk:slk k h.l=some (.list el gr g w t xs))(hn:n=xs.length)(hom:o+m<=n) :
 fz1 P (d+1) (qC h.l) (.own k n o m)=some (.l el m (((xs.drop o).take m).flatMap t.cells),qC (h.del k).l):=by
 have hl:=ho.list _ _ _ _ _ _ _ hk;simp only[fz1,zK hk];rw[show (SO.list el gr g w t xs).enc.el=el from rfl,hl.2.1];simp only[qU,hn,aJ,cond_true];rw[show (SO.list el gr g w t xs).enc.cs=(xs.flatMap t.cells).map .f from rfl,<-zSD,<-zR6,gI,gM,qA4];show some _=some (_,qC (sdl k h.l));rw[aB]
def q17 (el:TypeId)(t:Ty)(k g:Nat)(f:List t.sem->List t.sem)(h:SH):Option (List t.sem×SH):=match slk k h.l with
 | some (.list el' _ g' _ u xs)=>cond (Nat.beq el' el&&Nat.beq g g') (match qD8 u t xs with
   | some xs=>some (f xs,h.del k)
   | none=>none) none
 | _=>none
def q1Y (el:TypeId)(t:Ty):List SV->SH->Option (List (List t.sem)×SH)
 | [],h=>some ([],h)
 | .own k g _::l,h=>(match q17 el t k g (fun xs=>xs) h with
   | some (x,h1)=>(match q1Y el t l h1 with
     | some (xs,h2)=>some (x::xs,h2)
     | none=>none)
   | none=>none)
 | _,_=>none
def qZN (P:Program)(el e2:TypeId)(t2:Ty)(k n:Nat)(h:SH):Option (List (List t2.sem)×SH):=match slk k h.l with
 | some (.cells el' _ cs)=>cond (Nat.beq el' el&&Nat.beq n cs.length) (match szT P el with
   | some 1=>q1Y e2 t2 cs (h.del k)
   | _=>none) none
 | _=>none
def zBH (P:Program)(el:TypeId):(t:Ty)->(k n:Nat)->SH->Option (List t.sem×SH)
 | .list e2 t2,k,n,h=>qZN P el e2 t2 k n h
 | _,_,_,_=>none
def zA8 (P:Program)(el:TypeId)(t:Ty)(k g n:Nat)(h:SH):Option (List t.sem×SH):=match q17 el t k g (fun xs=>xs) h with
 | some r=>some r
 | none=>zBH P el t k n h
def zFY (P:Program)(ty el:TypeId)(t:Ty)(h:SH):Option (List t.sem×SH):=match zQ P ty with
 | some el'=>cond (Nat.beq el' el) (some ([],h)) none
 | none=>none
def zCA (P:Program)(ty el el':TypeId)(k':IntKind)(xs:List Int):(t:Ty)->Option (List t.sem)
 | .int k=>cond (Nat.beq el' el&&decide (k'=k)) (match zQ P ty with
   | some e=>cond (Nat.beq e el) (some xs) none
   | none=>none) none
 | _=>none
def qYR (t:Ty)(v:SV)(h:SH):Option (t.sem×SH):=match t.zK6 v with
 | some x=>some (x,h)
 | none=>none
def q87 (P:Program)(el el':TypeId)(k w:Nat)(ik:IntKind)(h:SH):Option (List Int×SH):=match slk k h.l with
 | some (.spc w' (.arr el0 ik' xs))=>cond (Nat.beq el el'&&(Nat.beq w' w&&(decide (ik'=ik)&&!spec P el0))) (some (xs,h.del k)) none
 | _=>none
def zA6 (P:Program)(el el':TypeId)(k w:Nat):(t:Ty)->SH->Option (List t.sem×SH)
 | .int ik,h=>q87 P el el' k w ik h
 | _,_=>none
omit [Yl] in
theorem q25 {k:IntKind}:∀ (xs:List Int),List.flatMap (Ty.int k).cells xs=xs.map fun x=>FV.v (.int k x)
 | []=>rfl
 | x::xs=>by rw[zQS,q25 xs];rfl
theorem q2R {el':TypeId}:∀ {t:Ty} {h h':SH} {x:List t.sem},OkH P h->(SV.asl el' k w n).ok h->zA6 P el el' k w t h=some (x,h') ->
 fz1 P 4 (qC h.l) (.asl el' k n)=some ((Ty.list el t).fv x,qC h'.l)∧Keep h h'∧OkH P h'
 | .int ik,h,h',x,ho,hv,e=>by
   have e:q87 P el el' k w ik h=some (x,h'):=e;unfold q87 at e;split at e
   ·rename_i w' el0 ik' xs hk
    cases hc:(Nat.beq el el'&&(Nat.beq w' w&&(decide (ik'=ik)&&!spec P el0))) with
    | false=>rw[hc] at e;cases e
    | true =>
      rw[hc] at e;cases e;simp only[zPY,zQX,decide_eq_true_eq] at hc;obtain⟨h1,h2,h3,h4⟩:=hc;have h1:=zPZ h1;have h2:=zPZ h2;subst h1 h2 h3;simp only[SV.ok] at hv;obtain⟨el1,ik1,xs1,q1,q2⟩:=hv.2 _ hk rfl;cases q1;have hd:=fO (k:=k) ho;refine⟨?_,hd.1,hd.2⟩;simp only[fz1,zK hk]
      show (cond (Nat.beq n (x.map fun y=>fvv (.int ik' y)).length&&(!spec P el0&&!false)) (match qAF (fz1 P 3) (x.map fun y=>fvv (.int ik' y)) (o8 k (qC h.l)) with
       | some (cs,ph')=>some (FV.l el n cs,ph')
       | none=>none) none)=_
      rw[show (x.map fun y=>fvv (.int ik' y))=(x.map fun y=>FV.v (.int ik' y)).map .f by rw[zR9];rfl,qA4,zP5,zP5,h4,q2];simp only[aJ,Bool.not_false,zQU,cond_true];rw[show o8 k (qC h.l)=qC (h.del k).l from (aB k _).symm];show some (FV.l el x.length _,_)=some (FV.l el x.length (List.flatMap (Ty.int ik').cells x),_);rw[q25]
   ·cases e
 | .bool,_,_,_,_,_,e=>by cases e
 | .str,_,_,_,_,_,e=>by cases e
 | .raw,_,_,_,_,_,e=>by cases e
 | .nif,_,_,_,_,_,e=>by cases e
 | .unit,_,_,_,_,_,e=>by cases e
 | .ol _ _,_,_,_,_,_,e=>by cases e
 | .list _ _,_,_,_,_,_,e=>by cases e
 | .pair _ _,_,_,_,_,_,e=>by cases e
def q2O (P:Program)(ty:TypeId):(t:Ty)->SV->SH->Option (t.sem×SH)
 | .list el t,.own k g n,h=>zA8 P el t k g n h
 | .list el t,.sl k g _ o m,h=>q17 el t k g (fun xs=>(xs.drop o).take m) h
 | .list el t,.asl el' k w _,h=>zA6 P el el' k w t h
 | .list el t,.c (.slice none 0 0),h=>zFY P ty el t h
 | .list el t,.d (.ol el' k') xs,h=>(match zCA P ty el el' k' xs t with
   | some x=>some (x,h)
   | none=>none)
 | t,v,h=>cond t.nol (qYR t v h) none
omit [Yl] in
theorem oQ:∀ {t:Ty} {x:t.sem},(t.one&&t.nol)=true->rt0 P ty (.f (t.fv x))=.f (t.fv x)
 | .int _,_,_=>rfl
 | .bool,_,_=>rfl
 | .str,_,_=>rfl
 | .raw,_,_=>rfl
 | .nif,_,_=>rfl
 | .ol _ _,_,e=>by cases e
 | .list _ _,_,_=>rfl
 | .unit,_,e=>by cases e
 | .pair _ _,_,e=>by cases e
theorem qQL {t:Ty}{g:Nat}{f:List t.sem->List t.sem}{x:List t.sem}(ho:OkH P h)(hs:qVE h k g n)(hom:o+m<=n)(hf:∀ xs:List t.sem,xs.length=n->f xs=(xs.drop o).take m)(e:q17 el t k g f h=some (x,h')) :
 fz1 P (d+1) (qC h.l) (.own k n o m)=some ((Ty.list el t).fv x,qC h'.l)∧Keep h h'∧OkH P h':=by
 unfold q17 at e;split at e
 ·rename_i el' gr g' w u xs hk
  cases hc:(Nat.beq el' el&&Nat.beq g g') with
  | false=>rw[hc] at e;cases e
  | true =>
    rw[hc] at e;rw[zPY] at hc;have he:el'=el:=zPZ hc.1;have hg:g=g':=zPZ hc.2;subst he hg;simp only[cond_true] at e;split at e
    ·rename_i ys hys;cases uP hys;cases e;have hn:=hs.2 _ _ _ _ _ hk;have hd:=fO (k:=k) ho;refine⟨?_,hd.1,hd.2⟩;rw[q1F ho hk hn hom,hf _ hn.symm];show some (FV.l el' m _,_)=some (FV.l el' _ _,_);rw[zQ3,zSP,zRO (by omega)]
    ·cases e
 ·cases e
theorem qGY {ty:TypeId}{t:Ty}{g:Nat}{f:List t.sem->List t.sem}{x:List t.sem}(ho:OkH P h)(hs:qVE h k g n)(hom:o+m<=n)(hf:∀ xs:List t.sem,xs.length=n->f xs=(xs.drop o).take m)(e:q17 el t k g f h=some (x,h')) :
 fz1 P 4 (qC h.l) (.own k n o m)=some ((Ty.list el t).fv x,qC h'.l)∧Keep h h'∧OkH P h' :=
 qQL (d:=3) ho hs hom hf e
theorem qO6 {el:TypeId}{t:Ty}:∀ {l:List SV} {h h':SH} {x:List (List t.sem)},OkH P h->okL h l->q1Y el t l h=some (x,h') ->
 qAF (fz1 P 3) (qB l) (qC h.l)=some (x.map (Ty.list el t).fv,qC h'.l)∧Keep h h'∧OkH P h'∧x.length=l.length
 | [],h,h',x,ho,hl,e=>by
   cases e;exact⟨rfl,.refl _,ho,rfl⟩
 | v::l,h,h',x,ho,hl,e=>by
   cases v with
   | own k g n =>
     have e:(match q17 el t k g (fun xs=>xs) h with
      | some (x,h1)=>(match q1Y el t l h1 with
        | some (xs,h2)=>some (x::xs,h2)
        | none=>none)
      | none=>none)=some (x,h'):=e
     split at e
     ·rename_i y h1 hy;split at e
      ·rename_i ys h2 hys;cases e;simp only[okL,SV.ok] at hl;obtain⟨a1,a2,a3⟩:=qQL (d:=2) (n:=n) (o:=0) (m:=n) ho hl.1 (by omega) (fun xs hl=>by rw[zRI,<-hl,zSR]) hy;obtain⟨b1,b2,b3,b4⟩:=qO6 a3 (qI a2 hl.2) hys;refine⟨?_,a2.trans b2,b3,by simp[b4]⟩
       show (match fz1 P 3 (qC h.l) (.own k n 0 n) with
        | some (y,ph1)=>(match qAF (fz1 P 3) (qB l) ph1 with
          | some (ys,ph2)=>some (y::ys,ph2)
          | none=>none)
        | none=>none)=_
       rw[a1];simp only[b1];rfl
      ·cases e
     ·cases e
   | _=>cases e
theorem q3V:∀ {t:Ty} {k n g:Nat} {h h':SH} {x:List t.sem},OkH P h->zBH P el t k n h=some (x,h') ->
 fz1 P 4 (qC h.l) (.own k n 0 n)=some ((Ty.list el t).fv x,qC h'.l)∧Keep h h'∧OkH P h'
 | .list e2 t2,k,n,g,h,h',x,ho,e=>by
   have e:qZN P el e2 t2 k n h=some (x,h'):=e;unfold qZN at e;split at e
   ·rename_i el' w cs hk
    cases hc:(Nat.beq el' el&&Nat.beq n cs.length) with
    | false=>rw[hc] at e;cases e
    | true =>
      rw[hc] at e;simp only[cond_true] at e;rw[zPY] at hc;have h1:=zPZ hc.1;have h2:=zPZ hc.2;subst h1;split at e
      ·rename_i hs;have hd:=fO (k:=k) ho;obtain⟨b1,b2,b3,b4⟩:=qO6 hd.2 (qI hd.1 (ho.cells _ _ _ _ hk)) e;refine⟨?_,hd.1.trans b2,b3⟩;simp only[fz1,zK hk]
       show (match szT P el' with
        | some s=>cond (Nat.beq (n*s) (qB cs).length) (match qAF (fz1 P 3) (((qB cs).drop (0*s)).take (n*s)) (o8 k (qC h.l)) with
          | some (cs,ph')=>some (FV.l el' n cs,ph')
          | none=>none) none
        | none=>none)=_
       rw[hs];simp only[Nat.mul_one,zTR,zRI,qQ,h2,aJ,cond_true];rw[zQT (by rw[qQ];exact zP0 _),show o8 k (qC h.l)=qC (h.del k).l from (aB k _).symm,b1];show some (FV.l el' cs.length (x.map (Ty.list e2 t2).fv),_)=some (FV.l el' x.length (x.flatMap (Ty.list e2 t2).cells),_);rw[b4]
       have hf:∀ y:List (List t2.sem),y.flatMap (Ty.list e2 t2).cells=y.map (Ty.list e2 t2).fv:=fun y=>by
        induction y with
        | nil=>rfl
        | cons a y ih=>rw[zQS,ih];rfl
       rw[hf]
      ·cases e
   ·cases e
 | .int _,_,_,_,_,_,_,_,e=>by cases e
 | .bool,_,_,_,_,_,_,_,e=>by cases e
 | .str,_,_,_,_,_,_,_,e=>by cases e
 | .unit,_,_,_,_,_,_,_,e=>by cases e
 | .pair _ _,_,_,_,_,_,_,_,e=>by cases e
 | .raw,_,_,_,_,_,_,_,e=>by cases e
 | .ol _ _,_,_,_,_,_,_,_,e=>by cases e
 | .nif,_,_,_,_,_,_,_,e=>by cases e
theorem qSA {t:Ty}{x:t.sem}(ho:OkH P h)(hv:v.ok h)(e:q2O P ty t v h=some (x,h')) :
 ∃ y,fz1 P 4 (qC h.l) v.enc=some (y,qC h'.l)∧rt0 P ty (.f y)=.f (t.fv x)∧(t.one&&t.nol)=true∧Keep h h'∧OkH P h':=by
 unfold q2O at e;split at e
 ·rename_i el t k g n;simp only[SV.ok] at hv;unfold zA8 at e;split at e
  ·rename_i r hr;cases e;obtain⟨h1,h2,h3⟩:=qGY (ty:=ty) (n:=n) (o:=0) (m:=n) ho hv (by omega) (fun xs hl=>by rw[zRI,<-hl,zSR]) hr;exact⟨_,by simp only[SV.enc];exact h1,oQ rfl,rfl,h2,h3⟩
  ·obtain⟨h1,h2,h3⟩:=q3V (g:=g) ho e;exact⟨_,by simp only[SV.enc];exact h1,oQ rfl,rfl,h2,h3⟩
 ·rename_i el t k g n o m;simp only[SV.ok] at hv;obtain⟨h1,h2,h3⟩:=qGY (ty:=ty) (n:=n) (o:=o) (m:=m) ho hv.1 hv.2 (fun xs hl=>rfl) e;exact⟨_,by simp only[SV.enc];exact h1,oQ rfl,rfl,h2,h3⟩
 ·rename_i el t el' k w n;obtain⟨h1,h2,h3⟩:=q2R ho hv e;exact⟨_,by simp only[SV.enc];exact h1,oQ rfl,rfl,h2,h3⟩
 ·rename_i el t;unfold zFY at e;split at e
  ·rename_i el' hel
   cases hc:Nat.beq el' el with
   | false=>rw[hc] at e;cases e
   | true =>
     rw[hc] at e;cases e;have he:el'=el:=zPZ hc;subst he;refine⟨.v (.slice none 0 0),by simp only[SV.enc,fvv,fz1],?_,rfl,.refl _,ho⟩
     show (match zQ P ty with
      | some el=>PV.f (.l el 0 [])
      | none=>fvv (.slice none 0 0))=_
     rw[hel];rfl
  ·cases e
 ·rename_i el t el' k' xs;split at e
  ·rename_i y hy;cases e;unfold zCA at hy;split at hy
   ·rename_i k _
    cases hc:(Nat.beq el' el&&decide (k'=k)) with
    | false=>rw[hc] at hy;cases hy
    | true =>
      rw[hc] at hy;rw[zPY] at hc;have h1:el'=el:=zPZ hc.1;have h2:k'=k:=by simpa using hc.2
      subst h1 h2;simp only[cond_true] at hy;split at hy
      ·rename_i e0 he0
       cases hc2:Nat.beq e0 el' with
       | false=>rw[hc2] at hy;cases hy
       | true =>
         rw[hc2] at hy;cases hy;have h3:e0=el':=zPZ hc2;subst h3;refine⟨fvo e0 k' xs,by simp only[SV.enc];rfl,?_,rfl,.refl _,ho⟩
         cases xs with
         | nil =>
           show (match zQ P ty with
            | some el=>PV.f (.l el 0 [])
            | none=>fvv (.slice none 0 0))=_
           rw[he0];rfl
         | cons x xs=>rfl
      ·cases hy
   ·cases hy
  ·cases e
 ·obtain⟨zOB,e⟩:t.nol=true∧qYR t v h=some (x,h'):=by
   cases hn:t.nol with
   | true=>rw[hn] at e;exact⟨rfl,e⟩
   | false=>rw[hn] at e;cases e
  unfold qYR at e;split at e
  ·rename_i y hy;cases e;obtain⟨h1,h2⟩:=qAQ hy;have h3:(t.one&&t.nol)=true:=by rw[h2,zOB];rfl
   exact⟨_,by rw[h1];rfl,oQ h3,h3,.refl _,ho⟩
  ·cases e
def zEG (P:Program)(ty:TypeId)(t:Ty)(v:SV)(h:SH):Option (t.sem×SH):=cond (Gc.ol ty) (qYR t v h) (q2O P ty t v h)
theorem q8Z {t:Ty}{x:t.sem}(ho:OkH P h)(hv:v.ok h)(e:zEG P ty t v h=some (x,h')) :
 ∃ y,fz1 P 4 (qC h.l) v.enc=some (y,qC h'.l)∧rtC P ty (.f y)=.f (t.fv x)∧rtC P ty (.f (t.fv x))=.f (t.fv x)∧t.one=true∧Keep h h'∧OkH P h':=by
 unfold zEG at e;unfold rtC
 cases hc:Gc.ol ty with
 | true =>
   rw[hc] at e;simp only[cond_true] at e ⊢;unfold qYR at e;split at e
   ·rename_i y hy;cases e;obtain⟨h1,h2⟩:=qAQ hy;exact⟨_,by rw[h1];rfl,rfl,trivial,h2,.refl _,ho⟩
   ·cases e
 | false =>
   rw[hc] at e;simp only[cond_false] at e ⊢;obtain⟨y,a1,a2,a3,a4,a5⟩:=qSA ho hv e;exact⟨y,a1,a2,oQ a3,(by rw[zPY] at a3;exact a3.1),a4,a5⟩
def qG1 (P:Program)(t:Ty)(tys:List TypeId)(l:List SV)(h:SH):Option (t.sem×List TypeId×List SV×SH):=match tys,l with
 | ty::tys,v::l=>(match zEG P ty t v h with
   | some (x,h')=>some (x,tys,l,h')
   | none=>none)
 | _,_=>none
def Ty.zJR (P:Program):(t:Ty)->List TypeId->List SV->SH->Option (t.sem×List TypeId×List SV×SH)
 | .unit,tys,l,h=>some ((),tys,l,h)
 | .pair a b,tys,l,h=>match a.zJR P tys l h with
   | some (x,zKI,l1,h1)=>(match b.zJR P zKI l1 h1 with
     | some (y,zM1,l2,h2)=>some ((x,y),zM1,l2,h2)
     | none=>none)
   | none=>none
 | .int k,tys,l,h=>qG1 P (.int k) tys l h
 | .bool,tys,l,h=>qG1 P .bool tys l h
 | .str,tys,l,h=>qG1 P .str tys l h
 | .raw,tys,l,h=>qG1 P .raw tys l h
 | .ol el k,tys,l,h=>qG1 P (.ol el k) tys l h
 | .nif,tys,l,h=>qG1 P .nif tys l h
 | .list el t,tys,l,h=>qG1 P (.list el t) tys l h
def zFR (P:Program)(t:Ty)(tys:List TypeId)(l:List SV)(h:SH)(x:t.sem)(zG4:List TypeId)(l':List SV)(h':SH):Prop :=
 okL h' l'∧Keep h h'∧OkH P h'∧∃ ys:List FV,(∀ zs p,qAF (fz1 P 4) (qB l') (qC h'.l)=some (zs,p)->qAF (fz1 P 4) (qB l) (qC h.l)=some (ys++zs,p)) ∧
  ∀ zs:List PV,rtL (rtC P) tys (ys.map .f++zs)=(t.cells x).map .f++rtL (rtC P) zG4 zs∧rtL (rtC P) tys ((t.cells x).map .f++zs)=(t.cells x).map .f++rtL (rtC P) zG4 zs
theorem fF {t:Ty}{tys zG4:List TypeId}{l l':List SV}{x:t.sem}(ho:OkH P h)(hl:okL h l)(e:qG1 P t tys l h=some (x,zG4,l',h')):zFR P t tys l h x zG4 l' h':=by
 unfold qG1 at e;split at e
 ·rename_i ty tys v l;split at e
  ·rename_i y h1 hd;cases e;simp only[okL] at hl;obtain⟨y,a1,a2,a2',a3,a4,a5⟩:=q8Z ho hl.1 hd;refine⟨qI a4 hl.2,a4,a5,[y],fun zs p hz=>?_,fun zs=>⟨?_,?_⟩⟩
   ·simp only[qB,qAF,a1,hz];rfl
   ·show rtC P ty (.f y)::rtL (rtC P) _ zs=_;rw[a2,Ty.cells_one a3];rfl
   ·rw[Ty.cells_one a3];show rtC P ty (.f (t.fv _))::rtL (rtC P) _ zs=_;rw[a2'];rfl
  ·cases e
 ·cases e
theorem qDA:∀ {t:Ty} {tys zG4:List TypeId} {l l':List SV} {h:SH} {x:t.sem} {h':SH},OkH P h->okL h l->t.zJR P tys l h=some (x,zG4,l',h')->zFR P t tys l h x zG4 l' h'
 | .unit,tys,zG4,l,l',h,x,h',ho,hl,e=>by
   cases e;exact⟨hl,.refl _,ho,[],fun zs p hz=>hz,fun zs=>⟨rfl,rfl⟩⟩
 | .int k,tys,zG4,l,l',h,x,h',ho,hl,e=>fF ho hl e
 | .bool,tys,zG4,l,l',h,x,h',ho,hl,e=>fF ho hl e
 | .str,tys,zG4,l,l',h,x,h',ho,hl,e=>fF ho hl e
 | .raw,tys,zG4,l,l',h,x,h',ho,hl,e=>fF ho hl e
 | .ol _ _,tys,zG4,l,l',h,x,h',ho,hl,e=>fF ho hl e
 | .nif,tys,zG4,l,l',h,x,h',ho,hl,e=>fF ho hl e
 | .list el t,tys,zG4,l,l',h,x,h',ho,hl,e=>fF ho hl e
 | .pair a b,tys,zG4,l,l',h,x,h',ho,hl,e=>by
   unfold Ty.zJR at e;split at e
   ·rename_i x1 zKI l1 h1 hd1;split at e
    ·rename_i y zM1 l2 h2 hd2;cases e;obtain⟨a1,a2,a3,ys,a4,a5⟩:=qDA ho hl hd1;obtain⟨b1,b2,b3,zs,b4,b5⟩:=qDA a3 a1 hd2;refine⟨b1,a2.trans b2,b3,ys++zs,fun us p hu=>?_,fun us=>⟨?_,?_⟩⟩
     ·rw[zQ0];exact a4 _ _ (b4 _ _ hu)
     ·rw[zRE,zQ0,(a5 _).1,(b5 _).1];show _=(a.cells x1++b.cells y).map PV.f++_;rw[zRE,zQ0]
     ·show rtL (rtC P) _ ((a.cells x1++b.cells y).map PV.f++us)=(a.cells x1++b.cells y).map PV.f++_;rw[zRE,zQ0,(a5 _).2,(b5 _).2,zQ0]
    ·cases e
   ·cases e
def q7C (P:Program)(ty:TypeId)(t:Ty)(v:SV)(h:SH):Option (t.sem×SH):=cond t.one (match v with
 | .agg _=>none
 | v=>q2O P ty t v h) (match v with
 | .agg l=>(match t.zJR P (wB P 8 ty) l h with
   | some (x,_,[],h')=>some (x,h')
   | _=>none)
 | _=>none)
theorem qBN {t:Ty}{x:t.sem}(ho:OkH P h)(hv:v.ok h)(e:q7C P ty t v h=some (x,h')) :
 ∃ y,fzP P (qC h.l) v.enc=some (y,qC h'.l)∧rt1 P ty y=t.pv x∧Keep h h'∧OkH P h'∧rt1 P ty (t.pv x)=t.pv x:=by
 unfold q7C at e
 cases ht:t.one with
 | true =>
   rw[ht] at e;simp only[cond_true] at e;split at e
   ·cases e
   ·rename_i hna;obtain⟨y,h1,h2,h3,h4,h5⟩:=qSA ho hv e
    have hpv:rt1 P ty (t.pv x)=t.pv x:=by
     unfold Ty.pv;rw[ht];exact oQ h3
    refine⟨.f y,?_,?_,h4,h5,hpv⟩
    ·cases v with
     | agg l=>exact absurd rfl (hna l)
     | opt b k o w=>cases b <;> (simp only[SV.enc,fvv,fzP,cond_true,cond_false] at h1 ⊢;rw[h1])
     | _=>simp only[SV.enc,fvv,fzP] at h1 ⊢;rw[h1]
    ·show rt0 P ty (.f y)=_;rw[h2];unfold Ty.pv;rw[ht];rfl
 | false =>
   rw[ht] at e;simp only[cond_false] at e;split at e
   ·rename_i l;split at e
    ·rename_i x1 zKI h1 hd;cases e;simp only[SV.ok] at hv;obtain⟨a1,a2,a3,ys,a4,a5⟩:=qDA ho hv hd
     have hpv:rt1 P ty (t.pv x)=t.pv x:=by
      unfold Ty.pv;rw[ht];show PV.agg (rtL (rtC P) (wB P 8 ty) ((t.cells x).map .f))=_;have:=(a5 []).2;rw[zRT] at this;rw[this];cases zKI <;> simp[rtL]
     refine⟨.agg (ys.map .f),?_,?_,a2,a3,hpv⟩
     ·have:=a4 [] (qC h'.l) (by simp[qB,qAF]);simp only[SV.enc,fzP,this,zRT]
     ·show PV.agg (rtL (rtC P) (wB P 8 ty) (ys.map .f))=_;have:=(a5 []).1;rw[zRT] at this;rw[this];unfold Ty.pv;rw[ht];cases zKI <;> simp[rtL]
    ·cases e
   ·cases e
def vU (P:Program):List TypeId->(ts:List Ty)->List SV->SH->Option (TyL ts×SH)
 | _,[],[],h=>some ((),h)
 | ty::_,[t],[v],h=>q7C P ty t v h
 | ty::tys,t::u::ts,v::vs,h=>match q7C P ty t v h with
   | some (x,h1)=>(match vU P tys (u::ts) vs h1 with
     | some (y,h2)=>some ((x,y),h2)
     | none=>none)
   | none=>none
 | _,_,_,_=>none
theorem dD:∀ {tys:List TypeId} {ts:List Ty} {vs:List SV} {h:SH} {x:TyL ts} {h':SH},OkH P h->okL h vs->vU P tys ts vs h=some (x,h') ->
 ∃ ys,fzA P (qB vs) (qC h.l)=some (ys,qC h'.l)∧rtL (rt1 P) tys ys=pvL ts x∧Keep h h'∧OkH P h'
 | tys,[],[],h,x,h',ho,hv,e=>by
   unfold vU at e;cases e;refine⟨[],rfl,?_,.refl _,ho⟩;cases tys <;> rfl
 | ty::tys,[t],[v],h,x,h',ho,hv,e=>by
   unfold vU at e;simp only[okL] at hv;obtain⟨y,h1,h2,h3,h4,_⟩:=qBN ho hv.1 e;refine⟨[y],?_,?_,h3,h4⟩
   ·simp only[qB,fzA,h1]
   ·show rt1 P ty y::rtL (rt1 P) tys []=[t.pv x];rw[h2];cases tys <;> rfl
 | ty::tys,t::u::ts,v::vs,h,x,h',ho,hv,e=>by
   unfold vU at e;simp only[okL] at hv;split at e
   ·rename_i x1 h1 hd;split at e
    ·rename_i y1 h2 hd2;cases e;obtain⟨y,a1,a2,a3,a4,_⟩:=qBN ho hv.1 hd;obtain⟨ys,b1,b2,b3,b4⟩:=dD a4 (qI a3 hv.2) hd2;refine⟨y::ys,?_,?_,a3.trans b3,b4⟩
     ·simp only[qB,fzA,a1,b1]
     ·show rt1 P ty y::rtL (rt1 P) tys ys=t.pv x1::pvL (u::ts) y1;rw[a2,b2]
    ·cases e
   ·cases e
 | [],[_],[_],_,_,_,_,_,e=>by unfold vU at e;cases e
 | [],_::_::_,_::_,_,_,_,_,_,e=>by unfold vU at e;cases e
 | tys,[],_::_,_,_,_,_,_,e=>by cases tys <;> (unfold vU at e;cases e)
 | tys,_::ts,[],_,_,_,_,_,e=>by cases tys <;> cases ts <;> (unfold vU at e;cases e)
 | tys,[_],_::_::_,_,_,_,_,_,e=>by cases tys <;> (unfold vU at e;cases e)
def Ty.sv (t:Ty)(x:t.sem):SV:=cond t.one (.d t x) (.agg (t.svs x))
theorem pG (t:Ty)(x:t.sem):(t.sv x).enc=t.pv x:=by
 unfold Ty.sv Ty.pv;cases t.one <;> simp[SV.enc,aA]
omit [Yl] in
theorem qI3 (t:Ty)(x:t.sem):(t.sv x).ok h:=by
 unfold Ty.sv;cases t.one
 ·simp only[cond_false,SV.ok];exact qEY t x
 ·simp[SV.ok]
def svL:(ts:List Ty)->TyL ts->List SV
 | [],_=>[]
 | [t],x=>[t.sv x]
 | t::u::ts,x=>t.sv x.1::svL (u::ts) x.2
theorem qCQ:∀ (ts:List Ty) (x:TyL ts),qB (svL ts x)=pvL ts x
 | [],_=>by simp[svL,pvL,qB]
 | [t],x=>by simp[svL,pvL,qB,pG]
 | t::u::ts,x=>by
   show qB (t.sv x.1::svL (u::ts) x.2)=t.pv x.1::pvL (u::ts) x.2;simp only[qB,pG,qCQ (u::ts)]
omit [Yl] in
theorem qBF:∀ (ts:List Ty) (x:TyL ts),okL h (svL ts x)
 | [],_=>by simp[svL,okL]
 | [t],x=>by simp[svL,okL,qI3]
 | t::u::ts,x=>by
   show okL h (t.sv x.1::svL (u::ts) x.2);simp only[okL];exact⟨qI3 t x.1,qBF (u::ts) x.2⟩
def qIY (ts:List Ty)(x:TyL ts):SV:=match svL ts x with
 | [v]=>v
 | vs=>.tup vs
theorem qLT (ts:List Ty)(x:TyL ts):(qIY ts x).enc=jP ts x:=by
 unfold qIY jP;rw[<-qCQ]
 match svL ts x with
 | []=>simp[qB,qEE,SV.enc]
 | [v]=>simp[qB,qEE]
 | a::b::l=>simp[qB,qEE,SV.enc]
omit [Yl] in
theorem qRQ (ts:List Ty)(x:TyL ts):(qIY ts x).ok h:=by
 unfold qIY;have:=qBF (h:=h) ts x;split
 ·rename_i v hv;rw[hv] at this;simp only[okL] at this;exact this.1
 ·simp only[SV.ok];exact this
def qRM (tab:uZ)(T:zX):Prop:=∀ g ent,slT g T=some ent->∀ x,tab g (pvL ent.as x)=(ent.F x).map (jP ent.rs)
def okc:FV->Bool
 | .v (.slice _ _ _)=>false
 | .v _=>true
 | .l _ _ _=>false
def _root_.Go.Sv.Ty.pln:Ty->Bool
 | .int _ | .bool | .str | .unit | .nif=>true
 | .pair a b=>Go.Sv.Ty.pln a&&Go.Sv.Ty.pln b
 | _=>false
omit [Yl] in
theorem pY:∀ (t:Ty) (x:t.sem),(t.cells x).all okc=t.pln
 | .int _,_=>rfl
 | .bool,_=>rfl
 | .str,_=>rfl
 | .unit,_=>rfl
 | .nif,_=>rfl
 | .raw,_=>rfl
 | .list _ _,_=>rfl
 | .ol _ _,xs=>by cases xs <;> rfl
 | .pair a b,x=>by
   show (a.cells x.1++b.cells x.2).all okc=(a.pln&&b.pln);rw[zTP,pY a,pY b]
omit [Yl] in
theorem qV8:∀ (cs:List FV),((qJM (cs.map .f)).isSome&&(cs.map PV.f).all q8N)=cs.all okc
 | []=>rfl
 | c::cs=>by
   rw[zRF,<-qV8 cs,zQG,zRF]
   cases c with
   | l el n xs=>rfl
   | v x =>
     have e2:q8N (.f (.v x))=okc (.v x):=by cases x <;> rfl
     rw[e2,show qJM (.f (.v x)::cs.map .f)=(match qJM (cs.map .f) with
      | some vs=>some (x::vs)
      | none=>none) from rfl]
     cases qJM (cs.map PV.f) with
     | none=>simp only[zUP,Bool.false_and,Bool.and_false]
     | some vs=>simp only[zTB,zUQ]
omit [Yl] in
theorem qIL (t:Ty)(x:t.sem):vJ (t.pv x)=t.pln∧((pl (t.pv x)).isSome&&qZF (t.pv x))=t.pln:=by
 unfold Ty.pv
 cases ht:t.one with
 | true =>
   simp only[cond_true];have:=pY t x;rw[Ty.cells_one ht] at this;rw[<-this,zRF,List.all_nil,zSC]
   cases hv:t.fv x with
   | l el n xs=>exact⟨rfl,rfl⟩
   | v y=>cases y <;> exact⟨rfl,rfl⟩
 | false =>
   simp only[cond_false];have:=qV8 (t.cells x);rw[pY] at this;refine⟨this,?_⟩;rw[<-this]
   show ((match qJM ((t.cells x).map .f) with
    | some vs=>some (Value.agg vs.toArray)
    | none=>none).isSome&&((t.cells x).map PV.f).all q8N)=_
   cases qJM ((t.cells x).map .f) <;> rfl
def zAH (ts:List Ty):Bool:=ts.all Ty.pln
omit [Yl] in
theorem qK4:∀ (ts:List Ty) (x:TyL ts),((plL (pvL ts x)).isSome&&(pvL ts x).all qZF)=zAH ts
 | [],_=>rfl
 | [t],x=>by
   show ((match pl (t.pv x) with
    | some v=>(match plL [] with
      | some vs=>some (v::vs)
      | none=>none)
    | none=>none).isSome&&((t.pv x)::[]).all qZF)=(t.pln&&true)
   rw[<- (qIL t x).2,zRF];cases pl (t.pv x) <;> simp[plL]
 | t::u::ts,x=>by
   show ((match pl (t.pv x.1) with
    | some v=>(match plL (pvL (u::ts) x.2) with
      | some vs=>some (v::vs)
      | none=>none)
    | none=>none).isSome&&((t.pv x.1)::pvL (u::ts) x.2).all qZF)=(t.pln&&zAH (u::ts))
   rw[<- (qIL t x.1).2,<-qK4 (u::ts) x.2,zRF]
   cases pl (t.pv x.1) with
   | none=>simp
   | some v=>cases plL (pvL (u::ts) x.2) with
     | none=>simp
     | some vs=>simp
omit [Yl] in
theorem qJQ (ts:List Ty)(x:TyL ts):vJ (jP ts x)=zAH ts:=by
 unfold jP
 match ts,x with
 | [],x=>rfl
 | [t],x =>
   show vJ (t.pv x)=(t.pln&&true);rw[(qIL t x).1,zSC]
 | t::u::ts,x =>
   have:=qK4 (t::u::ts) x;cases ts <;> exact this
def qTV (P:Program)(T:zX)(d:Bool)(g:FuncId)(as:List SV)(h:SH)(K:SV->SH->zGM R):zGM R:=match slT g T,P.funcs[g]? with
 | some ent,some fn=>(match vU P fn.params.toList ent.as as h with
   | some (x,h1)=>.bind (ent.F x) fun y=>cond d (cond (zAH ent.rs||(qB as).all qKR) (K (qIY ent.rs y) h) .fail) (K (qIY ent.rs y) (cond (zAH ent.rs) h h1))
   | none=>.fail)
 | _,_=>.fail
theorem q3E {T:zX}(ht:qRM tab T){K:SV->SH->zGM R}(ho:OkH P h)(ha:okL h as)(e:(qTV P T false g as h K).run=some r) :
 ∃ v h',aF P tab g (qB as) (qC h.l)=.ok v.enc (qC h'.l)∧Post P h h' v∧(K v h').run=some r:=by
 unfold qTV at e;split at e
 ·rename_i ent fn hent hfn;split at e
  ·rename_i x h1 hx;obtain⟨y,hy,e1⟩:=run_bind e;obtain⟨ys,a1,a2,a3,a4⟩:=dD ho ha hx;have e2:(K (qIY ent.rs y) (cond (vJ (jP ent.rs y)) h h1)).run=some r:=by rw[qJQ];exact e1
   refine⟨_,_,?_,⟨?_,?_,qRQ _ _⟩,e2⟩
   ·unfold aF;rw[a1];simp only;rw[show rtA P g ys=pvL ent.as x by unfold rtA;rw[hfn];exact a2,ht g ent hent x,hy];simp only[zQC,qLT];cases vJ (jP ent.rs y) <;> rfl
   ·cases vJ (jP ent.rs y)
    ·exact a3
    ·exact .refl _
   ·cases vJ (jP ent.rs y)
    ·exact a4
    ·exact ho
  ·cases e
 ·cases e
theorem qWL {T:zX}(ht:qRM tab T){K:SV->SH->zGM R}(ho:OkH P h)(ha:okL h as)(e:(qTV P T true g as h K).run=some r) :
 ∃ v h',r9 P tab g (qB as) (qC h.l)=.ok v.enc (qC h'.l)∧Post P h h' v∧(K v h').run=some r:=by
 unfold qTV at e;split at e
 ·rename_i ent fn hent hfn;split at e
  ·rename_i x h1 hx;obtain⟨y,hy,e1⟩:=run_bind e;obtain⟨ys,a1,a2,a3,a4⟩:=dD ho ha hx;obtain⟨c,e2⟩:=qE (show (cond (vJ (jP ent.rs y)||(qB as).all qKR) (K (qIY ent.rs y) h) .fail:zGM R).run=some r by rw[qJQ];exact e1);refine⟨_,_,?_,⟨.refl _,ho,qRQ _ _⟩,e2⟩;unfold r9;rw[a1];simp only;rw[show rtA P g ys=pvL ent.as x by unfold rtA;rw[hfn];exact a2,ht g ent hent x,hy];simp only[zQC,qLT,c,cond_true]
  ·cases e
 ·cases e
def sS (fv:SV)(args:List SV):Option (FuncId×List SV):=match fv with
 | .c (.func (.func g) a c)=>cond (a.toList.isEmpty&&c.toList.isEmpty) (some (g,args)) none
 | .fn g first cap=>some (g,first++(args++cap))
 | _=>none
theorem dS {fv:SV}{args:List SV}(hf:fv.ok h)(ha:okL h args)(e:sS fv args=some (g,as)):target fv.enc (qB args)=some (g,qB as)∧okL h as:=by
 unfold sS at e;split at e
 ·rename_i g' a c
  cases hc:(a.toList.isEmpty&&c.toList.isEmpty) with
  | false=>rw[hc] at e;cases e
  | true =>
    rw[hc] at e;cases e;exact⟨by simp only[target,SV.enc,fvv,hc,cond_true],ha⟩
 ·rename_i g' first cap
  cases e;simp only[SV.ok] at hf;exact⟨by simp only[target,SV.enc,dF],fU hf.1 (fU ha hf.2)⟩
 ·cases e
def q56 (P:Program)(T:zX)(d:Bool)(f:SV)(args:List SV)(h:SH)(K:SV->SH->zGM R):zGM R:=match sS f args with
 | some (g,as)=>qTV P T d g as h K
 | none=>.fail
def q3N (P:Program)(T:zX)(d:Bool)(k:Nat)(o:Oper)(env:List SV)(h:SH)(K:SV->SH->zGM R):zGM R:=match o.op with
 | .call ⟨.value f,args,_⟩=>q56 P T d (kD env f) (eH env args) h K
 | _=>sop P o env k h K
def qXO (P:Program)(G:Nat->Bool)(CI:CIT):Prop:=∀ {R:Type} (nm:Nm) (f:FuncId) (as:List SV) (h:SH) (K:SV->SH->zGM R) (r:R),OkH P h->okL h as->(CI R nm f as h K).run=some r ->
 qEA P G nm f (qB as) (qC h.l) fun v p=>∃ v' h',v=v'.enc∧p=qC h'.l∧Post P h h' v'∧(K v' h').run=some r
def qRP (p:Nat->Bool)(env:List SV):List (Nat×SO)->Bool
 | []=>true
 | (k,_)::l=>(!p k||yB k (qB env))&&qRP p env l
theorem qLA {p:Nat->Bool}{env:List SV}:∀ {l:List (Nat×SO)},qRP p env l=true->clean p (qB env) (qC l)=true
 | [],_=>rfl
 | (k,o)::l,h=>by
   have h:((!p k||yB k (qB env))&&qRP p env l)=true:=h;show ((!p k||yB k (qB env))&&clean p (qB env) (qC l))=true;rw[zPY] at h ⊢;exact⟨h.1,qLA h.2⟩
section
variable {Γ:Type}
def q5P (p:Nat->Bool):List (Nat×SO)->Bool
 | []=>true
 | (_,.cells _ _ l)::r=>tV p (qB l)&&q5P p r
 | (_,.list _ _ _ _ _ _)::r=>q5P p r
 | (_,.spc _ (.mit _ j _ _ _))::r=>!(p j)&&q5P p r
 | (_,.spc _ (.map _))::r=>q5P p r
 | (_,.spc _ (.iter _ _))::r=>q5P p r
 | (_,.spc _ (.arr _ _ _))::r=>q5P p r
theorem qYX (p:Nat->Bool):∀ (cs:List FV),tV p (cs.map .f)=true
 | []=>by simp[tV]
 | c::cs=>by simp[tV,noP,qYX p cs]
theorem qUO (p:Nat->Bool):∀ (l:List Nat),tV p (l.map iv)=true
 | []=>by simp[tV]
 | c::cs=>by
   show (true&&tV p (cs.map iv))=true;rw[qUO p cs];rfl
theorem q2Y (p:Nat->Bool)(j si la:Nat)(seen:List Nat):tV p (qHM (.mp j) si la seen)=!(p j):=by
 show (!(p j)&&(true&&(true&&(tV p (seen.map iv)&&true))))=_;rw[qUO];simp
theorem q1N (p:Nat->Bool)(c:Nat):∀ (es:List MapEntry),tV p (kQ c es)=true:=fun es=>by
 have:∀ es:List MapEntry,tV p (qED es)=true:=fun es=>by
  induction es with
  | nil=>rfl
  | cons e es ih=>exact ih
 exact this es
theorem mR {p:Nat->Bool}:∀ {l:List (Nat×SO)},q1T p (qC l)=q5P p l
 | []=>rfl
 | (j,.cells el w l)::r=>by
   show (tV p (qB l)&&q1T p (qC r))=_;rw[mR];rfl
 | (j,.list el gr g w t xs)::r=>by
   show (tV p ((xs.flatMap t.cells).map .f)&&q1T p (qC r))=_;rw[qYX,mR];rfl
 | (j,.spc w (.mit t i si la seen))::r=>by
   show (tV p (qHM (.mp i) si la seen)&&q1T p (qC r))=_;rw[q2Y,mR];rfl
 | (j,.spc w (.map es))::r=>by
   show (tV p (kQ _ _)&&q1T p (qC r))=_;rw[q1N,mR];rfl
 | (j,.spc w (.iter s pos))::r=>by
   show (tV p (qCU s pos)&&q1T p (qC r))=_;rw[show tV p (qCU s pos)=true from rfl,mR];rfl
 | (j,.spc w (.arr el ik xs))::r=>by
   show (tV p (xs.map fun x=>fvv (.int ik x))&&q1T p (qC r))=_;rw[show (xs.map fun x=>fvv (.int ik x))=(xs.map fun x=>FV.v (.int ik x)).map .f by rw[zR9];rfl,qYX,mR];rfl
def zC1 (nm:Nm)(j:FuncId)(env:List SV)(h:SH):Bool:=tV (inB (nm.b+wid nm.b*1000*(j+1))) (qB env)&&(((qC h.l).all fun x=>!inB (nm.b+wid nm.b*1000*(j+1)) x.1||nm.p x.1)&&q5P (zFT (nm.b+wid nm.b*1000*(j+1))) h.l)
theorem qOX {j:FuncId}{h:SH}:zC1 nm j env h=q5Y nm j (qB env) (qC h.l):=by
 unfold zC1 q5Y;rw[mR]
def q79 (nm:Nm)(g:FuncId)(env:List SV)(h:SH)(k:FuncId->zGM R):zGM R :=
 cond (zC1 nm g env h) (k g) (cond (zC1 nm (g+333) env h) (k (g+333)) (cond (zC1 nm (g+666) env h) (k (g+666)) (k g)))
theorem q2V {h:SH}{k:FuncId->zGM R}:q79 nm g env h k=k (qLF nm g (qB env) (qC h.l)):=by
 unfold q79 qLF;rw[qOX,qOX,qOX];cases q5Y nm g (qB env) (qC h.l)
 ·cases q5Y nm (g+333) (qB env) (qC h.l)
  ·cases q5Y nm (g+666) (qB env) (qC h.l) <;> rfl
  ·rfl
 ·rfl
def q4H (P:Program)(T:zX)(CI:CIT)(Y:YI Γ)(nm:Nm)(f:SV)(args:List SV)(g:Γ)(env:List SV)(h:SH)(K:Γ->SV->SH->zGM R):zGM R:=match f with
 | .yv=>(match vU P Y.yt Y.ys args h with
   | some (y,h1)=>.bind (Y.stp g y) fun p=>K p.1 (.d .bool p.2) h1
   | none=>.fail)
 | f=>(match sS f args with
   | some (t,as)=>cond (slT t T).isSome (qTV P T false t as h (K g)) (q79 nm t env h fun j=>CI R (qVV nm j) t as h fun v h2=>cond (qRP (qVV nm j).p env h2.l) (K g v h2) .fail)
   | none=>.fail)
def q5W (P:Program)(T:zX)(CI:CIT)(Y:YI Γ)(nm:Nm)(o:Oper)(g:Γ)(env:List SV)(h:SH)(K:Γ->SV->SH->zGM R):zGM R:=match o.op with
 | .call ⟨.value f,args,_⟩=>q4H P T CI Y nm (kD env f) (eH env args) g env h K
 | _=>zFF P o env (qH nm o.dst) h (K g)
def YOk (P:Program)(G:Nat->Bool)(w:Wld Γ)(Y:YI Γ):Prop:=∀ g y g' b,Y.stp g y=some (g',b)->qKA P G w Yl.l g (pvL Y.ys y) g' b
end
theorem qJS {T:zX}(ht:qRM tab T){o:Oper}{K:SV->SH->zGM R}(ho:OkH P h)(he:okL h env)(e:(q3N P T true k o env h K).run=some r) :
 ∃ v h',zL P tab k o (qB env) (qC h.l)=.ok v.enc (qC h'.l)∧Post P h h' v∧(K v h').run=some r:=by
 unfold q3N at e;unfold zL;split at e
 ·rename_i f args ts hop;unfold q56 at e;split at e
  ·rename_i g as hst;obtain⟨h1,h2⟩:=dS (nO he f) (fB he args) hst;obtain⟨v,h',a1,a2,a3⟩:=qWL ht ho h2 e;refine⟨v,h',?_,a2,a3⟩;simp only[hop,qO,gV,h1];exact a1
  ·cases e
 ·rename_i hne;obtain⟨v,h',a1,a2,a3⟩:=q5Z ho he e;refine⟨v,h',?_,a2,a3⟩;split
  ·rename_i f args ts hop;exact absurd hop (hne f args ts)
  ·rw[a1];rfl
end
end Go.Sv
namespace Go.Sv
open Go.Idl
variable {d:Option Tmp}{el:TypeId}{env:List SV}{h:SH}{o:Oper}{t:Ty}{v x:SV}
noncomputable section
variable [Gc]
variable [Frs]
variable [Yl]
variable {P:Program}{R:Type}{r:R}{tab:uZ}{G:Nat->Bool}{nm:Nm}
omit [Yl] in
theorem zGZ {Q Q':List PV->PHp->Prop}(hq:∀ e p,Q e p->Q' e p):∀ {t:PT},t.holds P G Q->t.holds P G Q'
 | .fail,h=>h.elim
 | .ret e p,h=>hq e p h
 | .chk c t,h=>⟨h.1,zGZ hq h.2⟩
 | .call nm g args ph k,h=>by
   obtain⟨R,h1,h2⟩:=h;exact⟨R,h1,fun v p hr=>zGZ hq (h2 v p hr)⟩
 | .rnd _ _ _ _,h=>h.elim
omit [Yl] in
theorem qZM (k:Nat):∀ (cs:List FV),yB k (cs.map .f)=true
 | []=>by simp[yB]
 | c::cs=>by simp[yB,noK,qZM k cs]
def qFZ (k:Nat):List (Nat×SO)->Bool
 | []=>true
 | (_,.cells _ _ l)::r=>yB k (qB l)&&qFZ k r
 | (_,.list _ _ _ _ _ _)::r=>qFZ k r
 | (_,.spc _ (.mit _ j _ _ _))::r=>!(k==j)&&qFZ k r
 | (_,.spc _ (.map _))::r=>qFZ k r
 | (_,.spc _ (.iter _ _))::r=>qFZ k r
 | (_,.spc _ (.arr _ _ _))::r=>qFZ k r
theorem qZD (k:Nat):∀ (l:List Nat),yB k (l.map iv)=true
 | []=>by simp[yB]
 | c::cs=>by
   show (true&&yB k (cs.map iv))=true;rw[qZD k cs];rfl
theorem q1I (k j si la:Nat)(seen:List Nat):yB k (qHM (.mp j) si la seen)=!(k==j):=by
 show (!(k==j)&&(true&&(true&&(yB k (seen.map iv)&&true))))=_;rw[qZD];simp
theorem jU {k:Nat}:∀ {l:List (Nat×SO)},qFZ k l=true->aC k (qC l)=true
 | [],_=>rfl
 | (j,.cells el w l)::r,h=>by
   simp only[qFZ,zPY] at h;show (yB k (qB l)&&aC k (qC r))=true;rw[h.1,jU h.2];rfl
 | (j,.list el gr g w t xs)::r,h=>by
   simp only[qFZ] at h;show (yB k ((xs.flatMap t.cells).map .f)&&aC k (qC r))=true;rw[qZM,jU h];rfl
 | (j,.spc w (.mit t i si la seen))::r,h=>by
   simp only[qFZ,zPY] at h;show (yB k (qHM (.mp i) si la seen)&&aC k (qC r))=true;rw[q1I,h.1,jU h.2];rfl
 | (j,.spc w (.map es))::r,h=>by
   simp only[qFZ] at h;show (yB k (kQ _ _)&&aC k (qC r))=true;rw[aT,jU h];rfl
 | (j,.spc w (.iter s pos))::r,h=>by
   simp only[qFZ] at h;show (yB k (qCU s pos)&&aC k (qC r))=true;rw[show yB k (qCU s pos)=true from rfl,jU h];rfl
 | (j,.spc w (.arr el ik xs))::r,h=>by
   simp only[qFZ] at h;show (yB k (xs.map fun x=>fvv (.int ik x))&&aC k (qC r))=true;rw[show (xs.map fun x=>fvv (.int ik x))=(xs.map fun x=>FV.v (.int ik x)).map .f by rw[zR9];rfl,qZM,jU h];rfl
def eG (env:List SV)(d:Option Tmp)(v:SV):List SV:=match d with
 | some t=>yS env t v
 | none=>env
theorem kG (env:List SV)(t:Nat)(v:SV):qB (yS env t v)=yS (qB env) t v.enc:=by
 rw[qW,qW,zD,zD,zTT]
theorem jI (env:List SV)(d:Option Tmp)(v:SV):qB (eG env d v)=yQ (qB env) d v.enc:=by
 cases d with
 | none=>rfl
 | some t=>exact kG env t v
omit [Yl] in
theorem xK {t:Nat}(he:okL h env)(hv:v.ok h):okL h (yS env t v):=by
 rw[qW]
 exact zI.2 fun x hx=>by
  rcases List.mem_or_eq_of_mem_set hx with q | q
  ·exact zI.1 he x q
  ·rw[q];exact hv
omit [Yl] in
theorem wJ (he:okL h env)(hv:v.ok h):okL h (eG env d v):=by
 cases d with
 | none=>exact he
 | some t=>exact xK he hv
omit [Yl] in
theorem vB (env:List SV)(t:Nat)(v:SV):(yS env t v).length=env.length:=by rw[qW,zQP]
omit [Yl] in
theorem q1W (env:List SV)(d:Option Tmp)(v:SV):(eG env d v).length=env.length:=by
 cases d with
 | none=>rfl
 | some t=>exact vB env t v
theorem qPT {t:Nat}{w:SV}(h1:zG env t=some v)(h2:w.enc=v.enc):qB (yS env t w)=qB env:=by
 rw[kG,qW];rw[qF] at h1;apply zRG;intro i;rw[zQW];by_cases e:t=i
 ·subst e;rw[if_pos rfl,zD,zQD,h1,zP5,if_pos (zP4.1 h1).1,h2];rfl
 ·rw[if_neg e]
def zM (b w:Bool):Bool:=cond w b (!b)
omit [Yl] in
theorem qQX (b w:Bool):zM b w=(b==w):=by cases b <;> cases w <;> rfl
def qC9 (ds:List (Option Tmp))(o:Oper)(env:List SV)(Y N:List SV->zGM R):zGM R:=match o.guard with
 | none=>Y env
 | some (j,w)=>(match qS0 ds j with
   | none=>N env
   | some t=>(match zG env t with
     | none=>.fail
     | some v=>(match asB v with
       | some b=>.ite (zM b w) (Y (yS env t (.c (.bool w)))) (N (yS env t (.c (.bool (!w)))))
       | none=>(match v with
         | .tup []=>N env
         | _=>.fail))))
theorem sD {ds:List (Option Tmp)}{Y N:List SV->zGM R}(he:okL h env)(e:(qC9 ds o env Y N).run=some r) :
 ∃ env',qB env'=qB env∧okL h env'∧env'.length=env.length∧((vK ds o (qB env)=some true∧(Y env').run=some r)∨(vK ds o (qB env)=some false∧(N env').run=some r)):=by
 unfold qC9 at e;unfold vK;split at e
 ·rename_i hg;exact⟨env,rfl,he,rfl,.inl ⟨by rw[hg],e⟩⟩
 ·rename_i j w hg;rw[hg];simp only;split at e
  ·rename_i hd;exact⟨env,rfl,he,rfl,.inr ⟨by rw[hd];rfl,e⟩⟩
  ·rename_i t hd;rw[hd];simp only[qOF,qV];split at e
   ·cases e
   ·rename_i v hv;rw[hv];split at e
    ·rename_i b hb;have hbe:=rX hb
     rcases run_ite e with ⟨z,e1⟩ | ⟨z,e1⟩
     ·rw[qQX] at z;have:b=w:=by simpa using z
      subst this;refine⟨_,qPT hv (by rw[hbe];simp[SV.enc]),xK he (by simp[SV.ok]),vB _ _ _,.inl ⟨?_,e1⟩⟩;simp only[zQC,hbe,qBM,z]
     ·rw[qQX] at z
      have:b=!w:=by cases b <;> cases w <;> first | rfl | cases z
      refine⟨_,qPT hv (by rw[hbe,this];simp[SV.enc]),xK he (by simp[SV.ok]),vB _ _ _,.inr ⟨?_,e1⟩⟩;simp only[zQC,hbe,qBM,z]
    ·split at e
     ·exact⟨env,rfl,he,rfl,.inr ⟨by simp only[zQC,SV.enc,qB];exact qT1,e⟩⟩
     ·cases e
def qFB (nm:Nm)(k:Nat)(env:List SV)(h:SH):Bool:=inP nm k&&(yB k (qB env)&&qFZ k h.l)
section
variable {Γ:Type}
def qZ3 (P:Program)(T:zX)(CI:CIT)(Y:YI Γ)(nm:Nm)(ds:List (Option Tmp)):List Oper->Γ->List SV->SH->(Γ->List SV->SH->zGM R)->zGM R
 | [],g,env,h,K=>K g env h
 | o::l,g,env,h,K=>qC9 ds o env
    (fun env=>cond (cond (needs o.op) (qFB nm (qH nm o.dst) env h) true) (q5W P T CI Y nm o g env h fun g v h'=>qZ3 P T CI Y nm ds l g (eG env o.dst v) h' K) .fail)
    (fun env=>qZ3 P T CI Y nm ds l g (eG env o.dst (.tup [])) h K)
end
def Ends (P:Program)(w:List (Option Tmp))(env:List SV)(h:SH)(env':List SV)(h':SH):Prop :=
 okL h' env'∧OkH P h'∧Keep h h'∧(∀ i,some i ∉ w->zG (qB env') i=zG (qB env) i)∧env'.length=env.length
theorem q63 {i:Nat}(h:d≠some i):zG (qB (eG env d v)) i=zG (qB env) i:=by
 cases d with
 | none=>rfl
 | some t =>
   show zG (qB (yS env t v)) i=_;rw[kG,qW,qF,qF,zQW,if_neg (fun e=>h (by rw[e]))]
theorem Ends.step {w:List (Option Tmp)}{zGR:List SV}{h1:SH}{env':List SV}{h':SH}(he:qB env=qB zGR)(hl:env.length=zGR.length)(hk:Keep h h1)(x:Ends P w (eG env o.dst v) h1 env' h'):Ends P (o.dst::w) zGR h env' h' :=
 ⟨x.1,x.2.1,hk.trans x.2.2.1,fun i hi=>by
   rw[zQK,not_or] at hi
   rw[x.2.2.2.1 i hi.2,q63 (fun e=>hi.1 e.symm),he],by rw[x.2.2.2.2,q1W,hl]⟩
omit [Yl] in
theorem kR {Γ:Type}{w:Wld Γ}{Q Q':Γ->List PV->PHp->Prop}(hq:∀ g e p,Q g e p->Q' g e p):∀ {t:PT} {g:Γ},t.zHM P G w Q g->t.zHM P G w Q' g
 | .fail,_,h=>h.elim
 | .ret e p,g,h=>hq g e p h
 | .chk c t,g,h=>⟨h.1,kR hq h.2⟩
 | .call nm f args ph k,g,h=>by
   obtain⟨R,h1,h2⟩:=h;exact⟨R,h1,fun v p hr=>kR hq (h2 v p hr)⟩
 | .rnd l args ph k,g,h=>by
   obtain⟨zHT,tys,ph1,g',b,h1,h2,h3⟩:=h;exact⟨zHT,tys,ph1,g',b,h1,h2,kR hq h3⟩
def q34 (T:zX)(f:FuncId):Bool:=!(slT f T).isSome
theorem qIF {Γ:Type}{w:Wld Γ}{T:zX}{CI:CIT}{Y:YI Γ}(ht:qRM tab T)(hci:qXO P G CI)(hy:YOk P G w Y){ds:List (Option Tmp)}:∀ {l:List Oper} {g:Γ} {env:List SV} {h:SH} {K:Γ->List SV->SH->zGM R},OkH P h->okL h env->(qZ3 P T CI Y nm ds l g env h K).run=some r ->
 (pops P tab (q34 T) nm ds l (qB env) (qC h.l)).zHM P G w (fun g e p=>∃ env' h',e=qB env'∧p=qC h'.l∧Ends P (l.map (·.dst)) env h env' h'∧(K g env' h').run=some r) g
 | [],g,env,h,K,ho,he,e=>⟨env,h,rfl,rfl,⟨he,ho,.refl _,fun _ _=>rfl,rfl⟩,e⟩
 | o::l,g,env,h,K,ho,he,e=>by
   unfold qZ3 at e;obtain⟨zGS,q1,q2,q3,q4⟩:=sD he e;rw[qWF]
   rcases q4 with ⟨hw,e1⟩ | ⟨hw,e1⟩
   ·rw[hw,q0Z];obtain⟨c,e2⟩:=qE e1
    have next:∀ {g':Γ} {v:SV} {h':SH},Post P h h' v->(qZ3 P T CI Y nm ds l g' (eG zGS o.dst v) h' K).run=some r->(pops P tab (q34 T) nm ds l (yQ (qB env) o.dst v.enc) (qC h'.l)).zHM P G w (fun g e p=>∃ env' h',e=qB env'∧p=qC h'.l∧Ends P ((o::l).map (·.dst)) env h env' h'∧(K g env' h').run=some r) g':=fun {g' v h'} a2 a3=>by
     have ih:=qIF ht hci hy a2.2.1 (wJ (d:=o.dst) (qI a2.1 q2) a2.2.2) a3;rw[jI,q1] at ih;exact kR (fun g e p ⟨env',h',b1,b2,b3,b4⟩=>⟨env',h',b1,b2,Ends.step q1 q3 a2.1 b3,b4⟩) ih
    have chk:∀ {g':Γ} {v:SV} {h':SH},Post P h h' v->(qZ3 P T CI Y nm ds l g' (eG zGS o.dst v) h' K).run=some r->(q9X (needs o.op) (qH nm o.dst) nm (qB env) (qC h.l) (pops P tab (q34 T) nm ds l (yQ (qB env) o.dst v.enc) (qC h'.l))).zHM P G w (fun g e p=>∃ env' h',e=qB env'∧p=qC h'.l∧Ends P ((o::l).map (·.dst)) env h env' h'∧(K g env' h').run=some r) g':=fun {g' v h'} a2 a3=>by
     unfold q9X
     cases hn:needs o.op with
     | false=>exact next a2 a3
     | true =>
       rw[hn] at c;simp only[cond_true] at c ⊢;refine⟨?_,next a2 a3⟩;unfold qFB at c;rw[q1] at c;simp only[zPY] at c;unfold fresh;rw[c.1,c.2.1,jU c.2.2];rfl
    unfold q5W at e2;split at e2
    ·rename_i f args ts hop
     have hpe:aU P tab (q34 T) (qH nm o.dst) o (qB env) (qC h.l)=oP P tab (q34 T) (kD zGS f).enc (qB (eH zGS args)) (qC h.l):=by
      unfold aU;rw[<-q1];simp only[hop,qO,gV]
     rw[hpe];have hfv:=nO q2 f;have has:=fB q2 args
     revert e2 hfv
     generalize kD zGS f=fv;intro e2 hfv;unfold q4H at e2;split at e2
     ·split at e2
      ·rename_i y h1 hd;obtain⟨p,hp,e3⟩:=run_bind e2;obtain⟨g',b⟩:=p;obtain⟨ys,a1,a2,a3,a4⟩:=dD ho has hd
       have:oP P tab (q34 T) (SV.enc .yv) (qB (eH zGS args)) (qC h.l)=.rnd Yl.l (qB (eH zGS args)) (qC h.l):=by
        simp only[SV.enc,oP]
       rw[this,qUU];refine⟨ys,Y.yt,qC h1.l,g',b,a1,?_,?_⟩
       ·rw[a2];exact hy _ _ _ _ hp
       ·have:=next (v:=.d .bool b) ⟨a3,a4,by simp[SV.ok]⟩ e3;simpa [SV.enc,Ty.fv,fvv] using this
      ·cases e2
     ·split at e2
      ·rename_i t as hst;obtain⟨h1,h2⟩:=dS hfv has hst;rw[qK3 h1];unfold mF q34
       cases hsl:(slT t T).isSome with
       | true =>
         rw[hsl] at e2;simp only[cond_true] at e2;obtain⟨v,h',a1,a2,a3⟩:=q3E ht ho h2 e2;simp only[zT2,cond_false];rw[a1,qPP];exact chk a2 a3
       | false =>
         rw[hsl] at e2;simp only[cond_false] at e2;simp only[Bool.not_false,cond_true];rw[qSS];rw[q2V,q1] at e2;refine⟨_,hci _ _ _ _ _ _ ho h2 e2,?_⟩;rintro v p ⟨v',h',rfl,rfl,a2,a3⟩;obtain⟨c2,a4⟩:=qE a3;have:=qLA c2;rw[q1] at this;exact⟨this,next a2 a4⟩
      ·cases e2
    ·rename_i hne;obtain⟨v,h',a1,a2,a3⟩:=q7W ho q2 e2;rw[q1] at a1
     have hpe:aU P tab (q34 T) (qH nm o.dst) o (qB env) (qC h.l)=.ok v.enc (qC h'.l):=by
      unfold aU;split
      ·rename_i f args ts hop;exact absurd hop (hne f args ts)
      ·rw[a1];rfl
     rw[hpe,qPP];exact chk a2 a3
   ·rw[hw,qUT];have ih:=qIF ht hci hy ho (wJ (d:=o.dst) (v:=.tup []) q2 (by simp[SV.ok,okL])) e1;rw[jI,q1] at ih;simp only[SV.enc,qB] at ih;exact kR (fun g e p ⟨env',h',b1,b2,b3,b4⟩=>⟨env',h',b1,b2,Ends.step q1 q3 (.refl _) b3,b4⟩) ih
def qUD (P:Program)(T:zX)(nm:Nm)(ds:List (Option Tmp))(b:DB)(zGR:List SV):Nat->List Oper->List SV->SH->List (Nat×List Nat)->List (Nat×List Nat)->List (Nat×Nat)->List (Nat×PV)->(List SV->SH->zGM R)->zGM R
 | i,[],env,h,E,F,N,V,K=>cond (mV b (qB zGR) E F N V) (K env h) .fail
 | i,o::l,env,h,E,F,N,V,K=>qC9 ds o env
    (fun env=>cond (cond (needs o.op) (inP nm (qH nm o.dst)&&qFZ (qH nm o.dst) h.l) true) (q3N P T true (qH nm o.dst) o env h fun v h' =>
      qUD P T nm ds b zGR (i+1) l (eG env o.dst v) h' (cond (qZ o) ((i,wlT nm o (qB env))::E) E) (cond (qZ o) F ((i,dlT o (qB env))::F)) (cond (needs o.op) ((i,qH nm o.dst)::N) N) ((i,v.enc)::V) K) .fail)
    (fun env=>qUD P T nm ds b zGR (i+1) l (eG env o.dst (.tup [])) h E F N ((i,.tup [])::V) K)
theorem qGZ {T:zX}(ht:qRM tab T){ds:List (Option Tmp)}{b:DB}{zGR:List SV}:∀ {l:List Oper} {i:Nat} {env:List SV} {h:SH} {E F:List (Nat×List Nat)} {N:List (Nat×Nat)} {V:List (Nat×PV)} {K:List SV->SH->zGM R},OkH P h->okL h env->(qUD P T nm ds b zGR i l env h E F N V K).run=some r ->
 (qJ6 P tab nm ds b (qB zGR) i l (qB env) (qC h.l) E F N V).holds P G fun e p=>∃ env' h',e=qB env'∧p=qC h'.l∧Ends P (l.map (·.dst)) env h env' h'∧(K env' h').run=some r
 | [],i,env,h,E,F,N,V,K,ho,he,e=>by
   unfold qUD at e;obtain⟨c,e1⟩:=qE e;rw[q2J];exact⟨c,env,h,rfl,rfl,⟨he,ho,.refl _,fun _ _=>rfl,rfl⟩,e1⟩
 | o::l,i,env,h,E,F,N,V,K,ho,he,e=>by
   unfold qUD at e;obtain⟨zGS,q1,q2,q3,q4⟩:=sD he e;rw[qW9]
   rcases q4 with ⟨hw,e1⟩ | ⟨hw,e1⟩
   ·rw[hw,qYV];obtain⟨c,e2⟩:=qE e1;obtain⟨v,h',a1,a2,a3⟩:=qJS ht ho q2 e2;rw[q1] at a1;rw[a1,qV1];have ih:=qGZ ht a2.2.1 (wJ (d:=o.dst) (qI a2.1 q2) a2.2.2) a3;rw[jI,q1] at ih;have ih2:=zGZ (Q':=fun e p=>∃ env' h',e=qB env'∧p=qC h'.l∧Ends P ((o::l).map (·.dst)) env h env' h'∧(K env' h').run=some r) (fun e p ⟨env',h',b1,b2,b3,b4⟩=>⟨env',h',b1,b2,Ends.step q1 q3 a2.1 b3,b4⟩) ih;unfold qDC
    cases hn:needs o.op with
    | false=>rw[hn] at ih2;exact ih2
    | true =>
      rw[hn] at c ih2;simp only[cond_true] at c ⊢;refine⟨?_,ih2⟩;rw[zPY] at c;rw[c.1,jU c.2];rfl
   ·rw[hw,qTE];have ih:=qGZ ht ho (wJ (d:=o.dst) (v:=.tup []) q2 (by simp[SV.ok,okL])) e1;rw[jI,q1] at ih;simp only[SV.enc,qB] at ih;exact zGZ (fun e p ⟨env',h',b1,b2,b3,b4⟩=>⟨env',h',b1,b2,Ends.step q1 q3 (.refl _) b3,b4⟩) ih
def qK9 (R:List Nat)(l:List (Nat×SO)):List (Nat×SO):=R.filterMap fun k=>(slk k l).map fun o=>(k,o)
theorem qCZ {l:List (Nat×SO)}:∀ (R:List Nat),qC (qK9 R l)=bC R (qC l)
 | []=>rfl
 | k::R=>by
   have ih:=qCZ (l:=l) R;unfold qK9 bC at ih ⊢;rw[zUK,zUK,vQ]
   cases hk:slk k l with
   | none=>simp only[zUG];exact ih
   | some o =>
     simp only[zQC];show (k,o.enc)::qC _=_;rw[ih]
def zEY (b:Array Nat)(h0:List (Nat×SO))(zGR:List PV)(E F:List (Nat×List Nat))(N:List (Nat×Nat))(V:List (Nat×PV))(O:List (Nat×List (Nat×SO))):Bool :=
 (E.all fun e=>(E++F).all fun f=>Nat.beq e.1 f.1||(qRR b e.1 f.1||f.2.all fun l=>!e.2.contains l)) &&
   N.all fun n=>yB n.2 zGR&&(qFZ n.2 h0&&((V.all fun v=>Nat.beq v.1 n.1||(vS b n.1 v.1||noK n.2 v.2))&&O.all fun c=>Nat.beq c.1 n.1||(vS b n.1 c.1||qFZ n.2 c.2)))
def q39 (O:List (Nat×List (Nat×SO))):List (Nat×PHp):=O.map fun c=>(c.1,qC c.2)
theorem q6U {b:Array Nat}{h0:List (Nat×SO)}{zGR:List PV}{E F:List (Nat×List Nat)}{N:List (Nat×Nat)}{V:List (Nat×PV)}{O:List (Nat×List (Nat×SO))}(h:zEY b h0 zGR E F N V O=true):zAB b (qC h0) zGR E F N V (q39 O)=true:=by
 unfold zEY at h;unfold zAB;rw[zPY] at h ⊢;refine⟨h.1,zP1.2 fun n hn=>?_⟩;have h2:=zP1.1 h.2 n hn;rw[zPY,zPY,zPY] at h2 ⊢;refine⟨h2.1,jU h2.2.1,h2.2.2.1,zP1.2 fun c hc=>?_⟩;obtain⟨c0,hc0,rfl⟩:=zQR.1 hc;have h3:=zP1.1 h2.2.2.2 c0 hc0;rw[zQ2,zQ2] at h3 ⊢;rcases h3 with h | h | h
 ·exact .inl h
 ·exact .inr (.inl h)
 ·exact .inr (.inr (jU h))
def q1S (l:List (Nat×SO)):PV->Bool
 | .own k _ _ _=>(match slk k l with
   | some (.list _ _ _ _ _ _)=>true
   | _=>false)
 | x=>qKR x
theorem qRX {l:List (Nat×SO)}{x:PV}(h:q1S l x=true):qJK (qC l) x=true:=by
 cases x with
 | own k t o n =>
   unfold q1S at h;unfold qJK;simp only at h ⊢;rw[vQ];split at h
   ·rename_i el gr g w u xs hk;rw[hk];simp only[zQC];show (((List.flatMap u.cells xs).map PV.f).all qT4)=true;rw[zP1];intro z hz;obtain⟨y,_,rfl⟩:=zQR.1 hz;rfl
   ·cases h
 | _=>exact h
def qU0 (o:Oper)(env:List PV):Bool:=match o.op with
 | .call ⟨.value f,args,_⟩=>(match target (qJ env f) (args.toList.map (qJ env)) with
   | some (g,_)=>(match Frs.fr g with
     | none=>true
     | some _=>false)
   | none=>true)
 | _=>true
theorem q0S {env:List PV}(h:qU0 o env=true):pfr o env=none:=by
 cases hp:pfr o env with
 | none=>rfl
 | some q =>
   obtain⟨el,n,cs⟩:=q;obtain⟨f,args,ts,g,hop,ht,hg⟩:=qOC hp;unfold qU0 at h;rw[hop] at h;simp only[ht,hg] at h;cases h
def sfr (o:Oper)(env:List SV):Option SV:=match o.op with
 | .call ⟨.value f,args,_⟩=>(match sS (kD env f) (eH env args) with
   | some (g,[.d (.list el t) xs])=>(match Frs.fr g with
     | some el'=>cond (Nat.beq el el') (some (.d (.list el t) xs)) none
     | none=>none)
   | _=>none)
 | _=>none
theorem zBR (he:okL h env)(e:sfr o env=some x):∃ el t,∃ xs:List (Ty.sem t),x=.d (.list el t) xs∧pfr o (qB env)=some (el,xs.length,xs.flatMap t.cells):=by
 unfold sfr at e;split at e
 case h_2=>cases e
 rename_i f args ts hop;split at e
 case h_2=>cases e
 rename_i g el t xs hst;split at e
 case h_2=>cases e
 rename_i el' hg
 cases hc:Nat.beq el el' with
 | false=>rw[hc] at e;cases e
 | true =>
   rw[hc] at e;cases e;obtain⟨h1,_⟩:=dS (nO he f) (fB he args) hst;refine⟨el,t,xs,rfl,?_⟩;unfold pfr;rw[hop];simp only[qO,gV,h1,qB,SV.enc,Ty.fv,hg,hc,cond_true]
def frT (P:Program)(el:TypeId)(w:Nat)(t:Ty):Bool:=match szT P el,t with
 | some (s+1),.int k=>Nat.beq w (s+1)&&(kY P el&&decide (k=Frs.fk))
 | _,_=>false
theorem qUJ {k:IntKind}:∀ (xs:List Int),(List.flatMap (Ty.int k).cells xs).all (isK k)=true
 | []=>rfl
 | x::xs=>by
   rw[zQS,zTP,qUJ xs];simp[Ty.cells,isK]
theorem qXA {xs:List t.sem}(h:frT P el t.w t=true)(hn:Nat.ble xs.length 1048576=true):qMJ P el xs.length (xs.flatMap t.cells)=true:=by
 unfold frT at h;unfold qMJ;split at h
 ·rename_i s k hs;rw[zPY,zPY] at h;have hw:=zPZ h.1;have hk:k=Frs.fk:=of_decide_eq_true h.2.2;subst hk;rw[hs];have h1:(List.flatMap (Ty.int Frs.fk).cells xs).length=xs.length*(s+1):=by rw[zT,hw]
  have h2:(List.flatMap (Ty.int Frs.fk).cells xs).all (isK Frs.fk)=true:=qUJ xs;show (Nat.beq (xs.length*(s+1)) (List.flatMap (Ty.int Frs.fk).cells xs).length&&(Nat.ble xs.length 1048576&&(kY P el&&(List.flatMap (Ty.int Frs.fk).cells xs).all (isK Frs.fk))))=true;rw[h1,h2,hn,h.2.1,zT9];rfl
 ·cases h
theorem zEX {w:Nat}(h:frT P el w t=true):szT P el=some w∧0 < w:=by
 unfold frT at h;split at h
 ·rename_i s k hs;rw[zPY] at h;have hw:=zPZ h.1;rw[hw];exact⟨hs,Nat.succ_pos _⟩
 ·cases h
def zFB (P:Program)(el:TypeId)(t:Ty)(v:SV)(h:SH):Option SV:=match v with
 | .own k g _=>(match q17 el t k g (fun xs=>xs) h with
   | some (xs,_)=>some (.d (.list el t) xs)
   | none=>none)
 | .sl k g _ o m=>(match q17 el t k g (fun xs=>(xs.drop o).take m) h with
   | some (xs,_)=>some (.d (.list el t) xs)
   | none=>none)
 | _=>none
def scp (P:Program)(o:Oper)(env:List SV)(h:SH):Option SV:=match o.op with
 | .call ⟨.value f,args,_⟩=>(match sS (kD env f) (eH env args) with
   | some (g,[v])=>(match Frs.fr g with
     | some el=>(match qBV P 8 el with
       | some t=>zFB P el t v h
       | none=>none)
     | none=>none)
   | _=>none)
 | _=>none
theorem q9L {t:Ty}(ho:OkH P h)(hv:v.ok h)(e:zFB P el t v h=some x):∃ xs:List t.sem,x=.d (.list el t) xs∧(∃ ph1,fzA P [v.enc] (qC h.l)=some ([.f (.l el xs.length (xs.flatMap t.cells))],ph1))∧∃ k t' o n,v.enc=.own k t' o n:=by
 have key:∀ {k n o m:Nat} {xs:List t.sem} {ph1:PHp},fz1 P 4 (qC h.l) (.own k n o m)=some ((Ty.list el t).fv xs,ph1)->fzA P [.own k n o m] (qC h.l)=some ([.f (.l el xs.length (xs.flatMap t.cells))],ph1):=fun {k n o m xs ph1} hz=>by
  unfold fzA fzP;simp only[hz,fzA];rfl
 unfold zFB at e;split at e
 ·rename_i k g n;split at e
  ·rename_i xs h' hd;cases e;simp only[SV.ok] at hv;obtain⟨h1,_⟩:=qGY (ty:=0) (n:=n) (o:=0) (m:=n) ho hv (by omega) (fun xs hl=>by rw[zRI,<-hl,zSR]) hd;exact⟨xs,rfl,⟨_,by simp only[SV.enc];exact key h1⟩,_,_,_,_,by simp only[SV.enc];rfl⟩
  ·cases e
 ·rename_i k g n o m;split at e
  ·rename_i xs h' hd;cases e;simp only[SV.ok] at hv;obtain⟨h1,_⟩:=qGY (ty:=0) (n:=n) (o:=o) (m:=m) ho hv.1 hv.2 (fun xs hl=>rfl) hd;exact⟨xs,rfl,⟨_,by simp only[SV.enc];exact key h1⟩,_,_,_,_,by simp only[SV.enc];rfl⟩
  ·cases e
 ·cases e
theorem zB7 (ho:OkH P h)(he:okL h env)(e:scp P o env h=some x):∃ el t,∃ xs:List (Ty.sem t),x=.d (.list el t) xs∧pfr o (qB env)=none∧(∃ f args ts,o.op=.call ⟨.value f,args,ts⟩) ∧
 (qMJ P el xs.length (xs.flatMap t.cells)=true->pcp P o (qB env) (qC h.l)=some (.l el xs.length (xs.flatMap t.cells))):=by
 unfold scp at e;split at e
 case h_2=>cases e
 rename_i f args ts hop;split at e
 case h_2=>cases e
 rename_i g v hst;split at e
 case h_2=>cases e
 rename_i el hg;split at e
 case h_2=>cases e
 rename_i t ht;obtain⟨h1,h2⟩:=dS (nO he f) (fB he args) hst;simp only[okL] at h2;obtain⟨xs,rfl,⟨ph1,hz⟩,k,t',o',n',hv⟩:=q9L ho h2.1 e
 have htg:target (qJ (qB env) f) (args.toList.map (qJ (qB env)))=some (g,[v.enc]):=by
  simp only[qO,gV,h1,qB]
 refine⟨el,t,xs,rfl,?_,⟨f,args,ts,hop⟩,fun hfo=>?_⟩
 ·unfold pfr;rw[hop];simp only[htg,hv]
 ·unfold pcp;rw[hop];simp only[htg,hg,hz];unfold zDG;simp only[hfo,show Nat.beq el el=true by simp,zQU,cond_true]
theorem q0X {env:List PV}{ph:PHp}(h:qU0 o env=true):pcp P o env ph=none:=by
 cases hq:pcp P o env ph with
 | none=>rfl
 | some y =>
   obtain⟨f,args,ts,g,as,el,n,cs,p1,hop,ht,hg,_⟩:=rH hq;unfold qU0 at h;rw[hop] at h;simp only[ht,hg] at h;cases h
def zF4 (ops:Array Oper):Bool:=ops.toList.any fun o=>match o.op with
 | .call ⟨.value (.func g),_,_⟩=>(Frs.fr g).isSome
 | _=>false
def qD4 (P:Program)(T:zX)(nm:Nm)(ds:List (Option Tmp))(b:Array Nat)(zGR:List SV)(h0:SH):Nat->List Oper->List SV->SH->List (Nat×List Nat)->List (Nat×List Nat)->List (Nat×Nat)->List (Nat×PV)->List (Nat×List (Nat×SO))->(List SV->SH->zGM R)->zGM R
 | i,[],env,h,E,F,N,V,O,K=>cond (zEY b h0.l (qB zGR) E F N V O) (K env h) .fail
 | i,o::l,env,h,E,F,N,V,O,K=>qC9 ds o env
    (fun env=>match scp P o env h with
     | some (.d (.list el t) xs)=>cond (frT P el t.w t&&(nR o (qB env)).all (q1S h.l)) (.ite (Nat.ble xs.length 1048576)
        (qD4 P T nm ds b zGR h0 (i+1) l (eG env o.dst (.d (.list el t) xs)) h E ((i,dlC o (qB env))::F) N ((i,(SV.d (.list el t) xs).enc)::V) O K) .fail) .fail
     | some _=>.fail
     | none=>match sfr o env with
      | some (.d (.list el t) xs)=>cond (frT P el t.w t&&inP nm (qH nm o.dst)) (.ite (Nat.beq xs.length 0)
         (qD4 P T nm ds b zGR h0 (i+1) l (eG env o.dst (.d (.list el t) [])) h E ((i,dlC o (qB env))::F) N ((i,.f (.l el 0 []))::V) O K)
         (.ite (Nat.ble xs.length 1048576)
           (qD4 P T nm ds b zGR h0 (i+1) l (eG env o.dst (.own (qH nm o.dst) h.next xs.length)) (h.new (qH nm o.dst) fun v=>.list el true v v t xs) ((i,[qH nm o.dst])::E) F ((i,qH nm o.dst)::N) ((i,.own (qH nm o.dst) xs.length 0 xs.length)::V)
             ((i,qK9 [qH nm o.dst] (h.new (qH nm o.dst) fun v=>.list el true v v t xs).l)::O) K) .fail)) .fail
      | some _=>.fail
      | none=>cond ((qU0 o (qB env)&&(okE o||(!qZ o||kE o)))&&((nR o (qB env)).all (q1S h.l)&&cond (needs o.op) (inP nm (qH nm o.dst)) true)) (q3N P T true (qH nm o.dst) o env h fun v h' =>
      qD4 P T nm ds b zGR h0 (i+1) l (eG env o.dst v) h' (cond (okE o) ((i,RC o (qH nm o.dst) (qB env))::E) E) (cond (okE o) F ((i,dlC o (qB env))::F)) (cond (needs o.op) ((i,qH nm o.dst)::N) N) ((i,v.enc)::V) (cond (okE o) ((i,qK9 (RC o (qH nm o.dst) (qB env)) h'.l)::O) O) K) .fail)
    (fun env=>qD4 P T nm ds b zGR h0 (i+1) l (eG env o.dst (.tup [])) h E F N ((i,.tup [])::V) O K)
theorem eD {T:zX}(ht:qRM tab T){ds:List (Option Tmp)}{b:Array Nat}{zGR:List SV}{h0:SH}:∀ {l:List Oper} {i:Nat} {env:List SV} {h:SH} {E F:List (Nat×List Nat)} {N:List (Nat×Nat)} {V:List (Nat×PV)} {O:List (Nat×List (Nat×SO))} {K:List SV->SH->zGM R},OkH P h->okL h env->(qD4 P T nm ds b zGR h0 i l env h E F N V O K).run=some r ->
 (qJV P tab nm ds b (qB zGR) (qC h0.l) i l (qB env) (qC h.l) E F N V (q39 O)).holds P G fun e p=>∃ env' h',e=qB env'∧p=qC h'.l∧Ends P (l.map (·.dst)) env h env' h'∧(K env' h').run=some r
 | [],i,env,h,E,F,N,V,O,K,ho,he,e=>by
   unfold qD4 at e;obtain⟨c,e1⟩:=qE e;exact⟨q6U c,env,h,rfl,rfl,⟨he,ho,.refl _,fun _ _=>rfl,rfl⟩,e1⟩
 | o::l,i,env,h,E,F,N,V,O,K,ho,he,e=>by
   unfold qD4 at e;obtain⟨zGS,q1,q2,q3,q4⟩:=sD he e;unfold qJV vO
   rcases q4 with ⟨hw,e1⟩ | ⟨hw,e1⟩
   ·rw[hw];simp only;split at e1
    ·rename_i el t xs hsc;obtain⟨el',t',xs',hx,hpf,⟨f,args,ts,hop⟩,hcp⟩:=zB7 ho q2 hsc;cases hx;rw[q1] at hpf hcp;obtain⟨c,e2⟩:=qE e1;rw[zPY] at c
     rcases run_ite e2 with ⟨z,e3⟩ | ⟨_,e3⟩
     ·have hcp:=hcp (qXA c.1 z);have c2:xE o (qB env) (qC h.l)=true:=zP1.2 fun x hx=>qRX (zP1.1 c.2 x (by rw[q1];exact hx))
      have hfr:qE6 o (qB env)=false:=by unfold qE6;rw[hpf]
      have zJD:okF o (qB env)=false:=by unfold okF okE;rw[hop,hfr];rfl
      have zJE:ndF o (qB env)=false:=by unfold ndF needs;rw[hop,hfr];rfl
      rw[tX hpf hcp c2];simp only[zJD,zJE,cond_false];unfold qDC;simp only[cond_false];have ih:=eD ht ho (wJ (d:=o.dst) (v:=.d (.list el t) xs) q2 (by simp[SV.ok])) e3;rw[jI,q1] at ih;exact zGZ (Q':=fun e p=>∃ env' h',e=qB env'∧p=qC h'.l∧Ends P ((o::l).map (·.dst)) env h env' h'∧(K env' h').run=some r) (fun e p ⟨env',h',b1,b2,b3,b4⟩=>⟨env',h',b1,b2,Ends.step q1 q3 (.refl _) b3,b4⟩) ih
     ·cases e3
    ·cases e1
    split at e1
    ·rename_i el t xs hsf;obtain⟨el',t',xs',hx,hpf⟩:=zBR q2 hsf;cases hx;rw[q1] at hpf;obtain⟨c,e2⟩:=qE e1;rw[zPY] at c;obtain⟨p1,p2⟩:=qLW hpf
     rcases run_ite e2 with ⟨z,e3⟩ | ⟨z,e3⟩
     ·have z0:xs=[]:=List.eq_nil_of_length_eq_zero (zPZ z);subst z0;have hfr:qE6 o (qB env)=false:=by unfold qE6;rw[hpf];rfl
      have zJD:okF o (qB env)=false:=by unfold okF;rw[p1,hfr];rfl
      have zJE:ndF o (qB env)=false:=by unfold ndF;rw[p2,hfr];rfl
      rw[nY hpf (qXA c.1 rfl)];simp only[zJD,zJE,cond_false];unfold qDC;simp only[cond_false];have ih:=eD ht ho (wJ (d:=o.dst) (v:=.d (.list el t) []) q2 (by simp[SV.ok])) e3;rw[jI,q1] at ih;exact zGZ (Q':=fun e p=>∃ env' h',e=qB env'∧p=qC h'.l∧Ends P ((o::l).map (·.dst)) env h env' h'∧(K env' h').run=some r) (fun e p ⟨env',h',b1,b2,b3,b4⟩=>⟨env',h',b1,b2,Ends.step q1 q3 (.refl _) b3,b4⟩) ih
     ·rcases run_ite e3 with ⟨z2,e4⟩ | ⟨z2,e4⟩
      ·cases hn:xs.length with
       | zero=>rw[hn] at z;cases z
       | succ n =>
       rw[hn] at hpf;have hfr:qE6 o (qB env)=true:=by unfold qE6;rw[hpf]
       have zJD:okF o (qB env)=true:=by unfold okF;rw[hfr,zUH]
       have zJE:ndF o (qB env)=true:=by unfold ndF;rw[hfr,zUH]
       have hRF:RF o (qH nm o.dst) (qB env)=[qH nm o.dst]:=by unfold RF;rw[hfr];rfl
       have hfo:=qXA c.1 z2;rw[hn] at hfo;rw[nY hpf hfo];simp only[zJD,zJE,hRF,cond_true];unfold qDC;simp only[cond_true];have hnw:=xG (k:=qH nm o.dst) (f:=fun v=>.list el true v v t xs) ho ⟨rfl,rfl,zEX c.1⟩;have ih:=eD ht hnw.2 (wJ (d:=o.dst) (v:=.own (qH nm o.dst) h.next xs.length) (qI hnw.1 q2) (wW rfl)) e4;rw[jI,q1] at ih;have ih2:=zGZ (Q':=fun e p=>∃ env' h',e=qB env'∧p=qC h'.l∧Ends P ((o::l).map (·.dst)) env h env' h'∧(K env' h').run=some r) (fun e p ⟨env',h',b1,b2,b3,b4⟩=>⟨env',h',b1,b2,Ends.step q1 q3 hnw.1 b3,b4⟩) ih
       have eO:q39 ((i,qK9 [qH nm o.dst] (h.new (qH nm o.dst) fun v=>.list el true v v t xs).l)::O)=(i,bC [qH nm o.dst] (qC (h.new (qH nm o.dst) fun v=>.list el true v v t xs).l))::q39 O:=by
        show (i,qC (qK9 _ _))::q39 O=_;rw[qCZ]
       rw[eO] at ih2;simp only[SV.enc,hn] at ih2;exact⟨c.2,ih2⟩
      ·cases e4
    ·cases e1
    rename_i hsf;obtain⟨c,e2⟩:=qE e1;rw[zPY,zPY,zPY] at c;have hpf:pfr o (qB env)=none:=by rw[<-q1];exact q0S c.1.1
    have hfr:qE6 o (qB env)=false:=by unfold qE6;rw[hpf]
    have zJD:okF o (qB env)=okE o:=by unfold okF;rw[hfr,zT3]
    have zJE:ndF o (qB env)=needs o.op:=by unfold ndF;rw[hfr,zT3]
    have hRF:RF o (qH nm o.dst) (qB env)=RC o (qH nm o.dst) (qB env):=by unfold RF;rw[hfr];rfl
    obtain⟨v,h',a1,a2,a3⟩:=qJS ht ho q2 e2;rw[q1] at a1;have c2:xE o (qB env) (qC h.l)=true:=zP1.2 fun x hx=>qRX (zP1.1 c.2.1 x (by rw[q1];exact hx))
    rw[oG hpf (q0X (by rw[<-q1];exact c.1.1)) a1 c.1.2 c2];simp only[zJD,zJE,hRF];have ih:=eD ht a2.2.1 (wJ (d:=o.dst) (qI a2.1 q2) a2.2.2) a3;rw[jI,q1] at ih;have ih2:=zGZ (Q':=fun e p=>∃ env' h',e=qB env'∧p=qC h'.l∧Ends P ((o::l).map (·.dst)) env h env' h'∧(K env' h').run=some r) (fun e p ⟨env',h',b1,b2,b3,b4⟩=>⟨env',h',b1,b2,Ends.step q1 q3 a2.1 b3,b4⟩) ih
    have eO:q39 (cond (okE o) ((i,qK9 (RC o (qH nm o.dst) (qB env)) h'.l)::O) O)=cond (okE o) ((i,bC (RC o (qH nm o.dst) (qB env)) (qC h'.l))::q39 O) (q39 O):=by
     cases okE o with
     | false=>rfl
     | true =>
       show (i,qC (qK9 _ _))::q39 O=_;rw[qCZ];rfl
    rw[eO] at ih2;unfold qDC
    cases hn:needs o.op with
    | false=>rw[hn] at ih2;exact ih2
    | true =>
      have c3:=c.2.2;rw[hn] at c3 ih2;simp only[cond_true] at c3 ⊢;exact⟨c3,ih2⟩
   ·rw[hw];simp only;have ih:=eD ht ho (wJ (d:=o.dst) (v:=.tup []) q2 (by simp[SV.ok,okL])) e1;rw[jI,q1] at ih;simp only[SV.enc,qB] at ih;exact zGZ (fun e p ⟨env',h',b1,b2,b3,b4⟩=>⟨env',h',b1,b2,Ends.step q1 q3 (.refl _) b3,b4⟩) ih
def qRN (ops:Array Oper):Bool:=match ops[ops.size - 1]? with
 | some o=>(match o.op with
   | .call ⟨.value _,_,_⟩=>(List.range (ops.size - 1)).all fun i=>vS (Region.before ops) i (ops.size - 1)
   | _=>false)
 | none=>false
def zE0 {Γ:Type}(P:Program)(G:Nat->Bool)(T:zX)(CI:CIT)(Y:YI Γ)(nm:Nm)(ops:Array Oper)(d:Bool)(g:Γ)(env:List SV)(h:SH)(K:Γ->List SV->SH->zGM R):zGM R :=
 cond (gF G ops) (cond d (cond (aI ops&&aD ops&&!(zF4 ops&&nE ops)) (cond (qRN ops)
  (qUD P T nm (ops.toList.map (·.dst)) (dBo ops) env 0 (ops.toList.take (ops.size - 1)) env h [] [] [] [] fun env h=>qZ3 P T CI Y nm (ops.toList.map (·.dst)) (ops.toList.drop (ops.size - 1)) g env h K)
  (qUD P T nm (ops.toList.map (·.dst)) (dBo ops) env 0 ops.toList env h [] [] [] [] (K g))) (cond (nE ops) (qD4 P T nm (ops.toList.map (·.dst)) (Region.before ops) env h 0 ops.toList env h [] [] [] [] [] (K g)) .fail)) (qZ3 P T CI Y nm (ops.toList.map (·.dst)) ops.toList g env h K)) .fail
variable {nat:xJ}{good:FuncId->Bool}{rd:Bool}
theorem q6S [zG8 P G]{Γ:Type}{w:Wld Γ}{T:zX}{CI:CIT}{Y:YI Γ}(s:zHK P good nat G tab)(ht:qRM tab T)(hci:qXO P G CI)(hy:YOk P G w Y){id:Nat}{ops:Array Oper}{d:Bool}{g:Γ}{K:Γ->List SV->SH->zGM R}(ho:OkH P h)(he:okL h env)(e:(zE0 P G T CI Y nm ops d g env h K).run=some r) :
 qR P G rd nm w (.region id ops d) g (qB env) (qC h.l) fun x g' pe ph=>x=.normal∧∃ env' h',pe=qB env'∧ph=qC h'.l∧Ends P (ops.toList.map (·.dst)) env h env' h'∧(K g' env' h').run=some r:=by
 unfold zE0 at e;obtain⟨c1,e1⟩:=qE e
 cases d with
 | true =>
   cases hc2:(aI ops&&aD ops&&!(zF4 ops&&nE ops)) with
   | false =>
     rw[hc2] at e1;obtain⟨c3,e2⟩:=qE (show (cond (nE ops) (qD4 P T nm (ops.toList.map (·.dst)) (Region.before ops) env h 0 ops.toList env h [] [] [] [] [] (K g)) .fail:zGM R).run=some r from e1);refine (qR.of (s.zN9 (Q:=fun x pe ph=>x=.normal∧∃ env' h',pe=qB env'∧ph=qC h'.l∧Ends P (ops.toList.map (·.dst)) env h env' h'∧(K g env' h').run=some r) c1 c3 ?_)).mono ?_
     ·exact zGZ (fun e p hq=>⟨rfl,hq⟩) (eD (G:=G) (O:=[]) ht ho he e2)
     ·rintro x g' pe ph ⟨rfl,hq⟩;exact hq
   | true =>
   have c2:=hc2;rw[hc2] at e1
   have e2:(cond (qRN ops)
    (qUD P T nm (ops.toList.map (·.dst)) (dBo ops) env 0 (ops.toList.take (ops.size - 1)) env h [] [] [] [] fun env h=>qZ3 P T CI Y nm (ops.toList.map (·.dst)) (ops.toList.drop (ops.size - 1)) g env h K)
    (qUD P T nm (ops.toList.map (·.dst)) (dBo ops) env 0 ops.toList env h [] [] [] [] (K g)):zGM R).run=some r:=e1
   rw[zPY,zPY] at c2;have c2:=c2.1
   cases hlo:qRN ops with
   | false =>
     rw[hlo] at e2;have e2:(qUD P T nm (ops.toList.map (·.dst)) (dBo ops) env 0 ops.toList env h [] [] [] [] (K g)).run=some r:=e2;refine (qR.of (s.zN3 (Q:=fun x pe ph=>x=.normal∧∃ env' h',pe=qB env'∧ph=qC h'.l∧Ends P (ops.toList.map (·.dst)) env h env' h'∧(K g env' h').run=some r) c1 c2.1 c2.2 rfl rfl ?_)).mono ?_
     ·exact zGZ (fun e p hq=>⟨rfl,hq⟩) (qGZ (G:=G) ht ho he e2)
     ·rintro x g' pe ph ⟨rfl,hq⟩;exact hq
   | true =>
     rw[hlo] at e2;have e2:(qUD P T nm (ops.toList.map (·.dst)) (dBo ops) env 0 (ops.toList.take (ops.size - 1)) env h [] [] [] [] fun env h=>qZ3 P T CI Y nm (ops.toList.map (·.dst)) (ops.toList.drop (ops.size - 1)) g env h K).run=some r:=e2;unfold qRN at hlo;split at hlo
     ·rename_i o hop;split at hlo
      ·have hlt:=(zQA.1 hop).1
       have hdrop:ops.toList.drop (ops.size - 1)=[o]:=by
        have h1:ops.toList[ops.size - 1]?=some o:=by simpa using hop
        obtain⟨h2,h3⟩:=zP4.1 h1;rw[zSY h2,h3,List.drop_eq_nil_of_le (by simp;omega)]
       have hmap:(ops.toList.take (ops.size - 1)).map (·.dst)++[o.dst]=ops.toList.map (·.dst):=by
        rw[show [o.dst]=[o].map (·.dst) from rfl,<-zRE,<-hdrop,zT5]
       refine s.zN6 (inl:=q34 T) (n0:=ops.size - 1) c1 c2.1 c2.2 hop (by omega) (fun i hi=>zP1.1 hlo i (zS0.2 hi)) ?_;refine zGZ (fun e p hq=>?_) (qGZ (G:=G) ht ho he e2);obtain⟨zGS,h1,rfl,rfl,a3,a4⟩:=hq;rw[hdrop] at a4;refine kR (fun g2 e p hq=>?_) (qIF (G:=G) ht hci hy a3.2.1 a3.1 a4);obtain⟨zG3,h2,rfl,rfl,b3,b4⟩:=hq;refine⟨rfl,zG3,h2,rfl,rfl,⟨b3.1,b3.2.1,a3.2.2.1.trans b3.2.2.1,fun i hi=>?_,b3.2.2.2.2.trans a3.2.2.2.2⟩,b4⟩;rw[<-hmap,zQ8,not_or] at hi;exact (b3.2.2.2.1 i hi.2).trans (a3.2.2.2.1 i hi.1)
      ·cases hlo
     ·cases hlo
 | false=>exact s.zN5 c1 (kR (fun g e p hq=>⟨rfl,hq⟩) (qIF (G:=G) ht hci hy ho he e1))
end
end Go.Sv
