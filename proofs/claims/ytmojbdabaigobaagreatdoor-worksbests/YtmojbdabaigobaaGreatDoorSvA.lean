/- A symbolic run, part one. Conditions: none. -/
import Derived.Test.YtmojbdabaigobaaGreatDoorPur23
set_option linter.all false
namespace Go.Sv
open Go.Idl
variable {el:TypeId}{j n off:Nat}{k:IntKind}
class Yl where
 l:Nat
variable [Gc]
variable {P:Program}{Z Z':Nat->Prop}{H:IH}{M:Nat->Option (Nat×PO)}
inductive Ty where
 | int (k:IntKind)
 | bool
 | str
 | unit
 | list (el:TypeId) (t:Ty)
 | pair (a b:Ty)
 | raw
 | ol (el:TypeId) (k:IntKind)
 | nif deriving DecidableEq
@[reducible] def Ty.sem:Ty->Type
  | .int _=>Int
  | .bool=>Bool
  | .str=>ByteArray
  | .unit=>Unit
  | .list _ t=>List t.sem
  | .pair a b=>a.sem×b.sem
  | .raw=>List (Value×Value)
  | .ol _ _=>List Int
  | .nif=>Unit
def dM (l:List (Value×Value)):List FV:=List.flatMap (fun p=>[.v p.1,.v p.2]) l
def fvo (el:TypeId)(k:IntKind):List Int->FV
 | []=>.v (.slice none 0 0)
 | x::xs=>.l el (xs.length+1) (List.flatMap (fun i=>[FV.v (.int k i)]) (x::xs))
def Ty.cells:(t:Ty)->t.sem->List FV
 | .int k,x=>[.v (.int k x)]
 | .bool,x=>[.v (.bool x)]
 | .str,x=>[.v (.string x)]
 | .unit,_=>[]
 | .list el t,xs=>[.l el (List.length xs) (List.flatMap t.cells xs)]
 | .pair a b,x=>a.cells x.1++b.cells x.2
 | .raw,xs=>[.l 1000000001 (List.length xs) (dM xs)]
 | .ol el k,xs=>[fvo el k xs]
 | .nif,_=>[.v .nilIface]
def Ty.w:Ty->Nat
 | .int _ | .bool | .str | .list _ _ | .raw | .ol _ _ | .nif=>1
 | .unit=>0
 | .pair a b=>a.w+b.w
def Ty.nol:Ty->Bool
 | .ol _ _=>false
 | .pair a b=>a.nol&&b.nol
 | _=>true
def Ty.one:Ty->Bool
 | .unit=>false
 | .pair _ _=>false
 | _=>true
def Ty.fv:(t:Ty)->t.sem->FV
 | .int k,x=>.v (.int k x)
 | .bool,x=>.v (.bool x)
 | .str,x=>.v (.string x)
 | .list el t,xs=>.l el (List.length xs) (List.flatMap t.cells xs)
 | .raw,xs=>.l 1000000001 (List.length xs) (dM xs)
 | .ol el k,xs=>fvo el k xs
 | .nif,_=>.v .nilIface
 | _,_=>.v undef
theorem Ty.cells_one:∀ {t:Ty} {x:t.sem},t.one=true->t.cells x=[t.fv x]
 | .int _,_,_=>rfl
 | .bool,_,_=>rfl
 | .str,_,_=>rfl
 | .list _ _,_,_=>rfl
 | .raw,_,_=>rfl
 | .ol _ _,_,_=>rfl
 | .nif,_,_=>rfl
 | .unit,_,h=>by cases h
 | .pair _ _,_,h=>by cases h
theorem Ty.zE8:∀ (t:Ty) (x:t.sem),(t.cells x).length=t.w
 | .int _,_=>rfl
 | .bool,_=>rfl
 | .str,_=>rfl
 | .list _ _,_=>rfl
 | .raw,_=>rfl
 | .ol _ _,_=>rfl
 | .nif,_=>rfl
 | .unit,_=>rfl
 | .pair a b,x=>by
   show (a.cells x.1++b.cells x.2).length=a.w+b.w;rw[zO0,a.zE8,b.zE8]
theorem zW {t:Ty}:∀ (xs:List t.sem),(xs.flatMap t.cells).length=xs.length*t.w
 | []=>by simp
 | x::xs=>by rw[zO8,zO0,t.zE8,zW xs,zO4,zRC,zRB]
theorem gH {t:Ty}:∀ (xs:List t.sem) (j:Nat),(xs.flatMap t.cells).drop (j*t.w)=(xs.drop j).flatMap t.cells
 | xs,0=>by simp
 | [],j+1=>by simp
 | x::xs,j+1=>by
   rw[zO8,List.drop_succ_cons,<-gH xs j,zRC,zRB,<-zSA]
   congr 1
   rw[List.drop_append_of_le_length (by rw[t.zE8];exact zOI _),zSE (by rw[t.zE8];exact zOI _),zRS]
theorem gI {t:Ty}:∀ (xs:List t.sem) (j:Nat),(xs.flatMap t.cells).take (j*t.w)=(xs.take j).flatMap t.cells
 | xs,0=>by simp
 | [],j+1=>by simp
 | x::xs,j+1=>by
   rw[zO8,zQK,zO8,<-gI xs j,zRC,zRB,List.take_append,t.zE8,zSB,zO5 (by rw[t.zE8];omega)]
theorem qXA {t:Ty}{xs:List t.sem}{x:t.sem}(h:xs[j]?=some x):((xs.flatMap t.cells).drop (j*t.w)).take t.w=t.cells x:=by
 rw[gH]
 have hj:=(zOO.1 h)
 obtain⟨hl,hx⟩:=hj;rw[zRI hl,hx,zO8,List.take_append_of_le_length (by rw[t.zE8];exact zOI _),zO5 (by rw[t.zE8];exact zOI _)]
theorem qKU {t:Ty}{xs:List t.sem}{x:t.sem}(h:xs[j]?=some x)(hn:off+n<=t.w):((xs.flatMap t.cells).drop (j*t.w+off)).take n=((t.cells x).drop off).take n:=by
 rw[<-qXA h,List.drop_take,zSA,zRU,zP7 (by omega)]
theorem flat_get {t:Ty}{xs:List t.sem}{x:t.sem}(h:xs[j]?=some x)(hn:off < t.w):(xs.flatMap t.cells)[j*t.w+off]?=(t.cells x)[off]?:=by
 rw[<-qXA h,zP6,if_pos hn,zP9]
theorem qFT {t:Ty}{xs:List t.sem}{x:t.sem}(h:xs[j]?=some x)(hn:off+n<=t.w):j*t.w+off+n<=(xs.flatMap t.cells).length:=by
 have hl:=(zOO.1 h).1;rw[zW];have:(j+1)*t.w<=xs.length*t.w:=zPO _ hl;rw[zRC] at this;omega
theorem qK4:∀ (xs ys:List (Value×Value)),dM xs=dM ys->xs=ys
 | [],[],_=>rfl
 | [],y::ys,h=>by cases h
 | x::xs,[],h=>by cases h
 | x::xs,y::ys,h=>by
   have h:FV.v x.1::FV.v x.2::dM xs=FV.v y.1::FV.v y.2::dM ys:=h;injection h with h1 h2;injection h2 with h2 h3;injection h1 with h1;injection h2 with h2;rw[qK4 xs ys h3,Prod.ext h1 h2]
theorem qBU:∀ (xs:List (Value×Value)),(dM xs).length=2*xs.length
 | []=>rfl
 | x::xs=>by
   show (dM xs).length+2=_;rw[qBU xs,zO4];omega
theorem qO7:∀ (xs ys:List (Value×Value)) (vs:List Value),FRL Z H (dM xs) vs->FRL Z' H (dM ys) vs->xs=ys
 | [],[],_,_,_=>rfl
 | [],y::ys,vs,a,b=>by have:=a.len;have:=b.len;simp[dM] at *;omega
 | x::xs,[],vs,a,b=>by have:=a.len;have:=b.len;simp[dM] at *;omega
 | x::xs,y::ys,vs,a,b=>by
   have a:FRL Z H (FV.v x.1::FV.v x.2::dM xs) vs:=a;have b:FRL Z' H (FV.v y.1::FV.v y.2::dM ys) vs:=b;obtain⟨v,vs',rfl,a1,a2⟩:=a.zE2;obtain⟨v',vs2,e,b1,b2⟩:=b.zE2;cases e;obtain⟨w,vs3,rfl,a3,a4⟩:=a2.zE2;obtain⟨w',vs4,e,b3,b4⟩:=b2.zE2;cases e;have e1:=(qLG a1).symm.trans (qLG b1);have e2:=(qLG a3).symm.trans (qLG b3);rw[qO7 xs ys _ a4 b4,Prod.ext e1 e2]
theorem qO5 {k:IntKind}:∀ (xs ys:List Int),List.flatMap (fun i=>[FV.v (.int k i)]) xs=List.flatMap (fun i=>[FV.v (.int k i)]) ys->xs=ys
 | [],[],_=>rfl
 | [],y::ys,h=>by simp at h
 | x::xs,[],h=>by simp at h
 | x::xs,y::ys,h=>by
   have h:FV.v (.int k x)::List.flatMap (fun i=>[FV.v (.int k i)]) xs=FV.v (.int k y)::List.flatMap (fun i=>[FV.v (.int k i)]) ys:=h;injection h with h1 h2;injection h1 with h1;injection h1 with _ h1;rw[h1,qO5 xs ys h2]
theorem qQI (xs:List Int):(List.flatMap (fun i=>[FV.v (.int k i)]) xs).length=xs.length:=by
 induction xs with
 | nil=>rfl
 | cons x xs ih=>rw[zO8,zO0,ih];simp;omega
theorem qJI {k:IntKind}:∀ (xs ys:List Int) (vs:List Value),FRL Z H (List.flatMap (fun i=>[FV.v (.int k i)]) xs) vs->FRL Z' H (List.flatMap (fun i=>[FV.v (.int k i)]) ys) vs->xs=ys
 | [],[],_,_,_=>rfl
 | [],y::ys,vs,a,b=>by have:=a.len;have:=b.len;simp at *;omega
 | x::xs,[],vs,a,b=>by have:=a.len;have:=b.len;simp at *;omega
 | x::xs,y::ys,vs,a,b=>by
   have a:FRL Z H (FV.v (.int k x)::List.flatMap (fun i=>[FV.v (.int k i)]) xs) vs:=a;have b:FRL Z' H (FV.v (.int k y)::List.flatMap (fun i=>[FV.v (.int k i)]) ys) vs:=b;obtain⟨v,vs',rfl,a1,a2⟩:=a.zE2;obtain⟨v',vs2,e,b1,b2⟩:=b.zE2;cases e;have e1:=(qLG a1).symm.trans (qLG b1);injection e1 with _ e1;rw[qJI xs ys _ a2 b2,e1]
theorem q5H:∀ {xs ys:List Int},fvo el k xs=fvo el k ys->xs=ys
 | [],[],_=>rfl
 | [],_::_,h=>by cases h
 | _::_,[],h=>by cases h
 | x::xs,y::ys,h=>by
   injection h with _ _ h;exact qO5 _ _ h
theorem q0R {v:Value}:∀ {xs ys:List Int},FR Z H (fvo el k xs) v->FR Z' H (fvo el k ys) v->xs=ys
 | [],[],_,_=>rfl
 | [],_::_,a,b=>by have:=qLG a;subst this;cases b
 | _::_,[],a,b=>by have:=qLG b;subst this;cases a
 | x::xs,y::ys,a,b=>by
   obtain⟨h1,ws,ws',h2,h3,h4⟩:=nN a b;have:=h4 (by rw[qQI,qQI];simpa using h1);subst this;exact qJI _ _ ws h2 h3
theorem Ty.inj:∀ (t:Ty) (x y:t.sem),t.cells x=t.cells y->x=y
 | .int _,x,y,h=>by injection h with h;injection h with h;injection h
 | .bool,x,y,h=>by injection h with h;injection h with h;injection h
 | .str,x,y,h=>by injection h with h;injection h with h;injection h
 | .unit,_,_,_=>rfl
 | .nif,_,_,_=>rfl
 | .ol el k,xs,ys,h=>by
   injection h with h;exact q5H h
 | .raw,xs,ys,h=>by
   injection h with h;injection h with _ h1 h2;exact qK4 _ _ h2
 | .pair a b,x,y,h=>by
   have:=List.append_inj (show a.cells x.1++b.cells x.2=a.cells y.1++b.cells y.2 from h) (by rw[a.zE8,a.zE8]);exact Prod.ext (a.inj _ _ this.1) (b.inj _ _ this.2)
 | .list el t,xs,ys,h=>by
   injection h with h;injection h with _ h1 h2;exact go t xs ys h1 h2
where
 go (t:Ty):∀ (xs ys:List t.sem),xs.length=ys.length->xs.flatMap t.cells=ys.flatMap t.cells->xs=ys
 | [],[],_,_=>rfl
 | [],y::ys,e,h=>by cases e
 | x::xs,[],e,h=>by cases e
 | x::xs,y::ys,e,h=>by
   rw[zO8,zO8] at h;have:=List.append_inj h (by rw[t.zE8,t.zE8]);rw[t.inj x y this.1,go t xs ys (by simpa using e) this.2]
theorem Ty.uniq:∀ (t:Ty) {x y:t.sem} {vs:List Value},FRL Z H (t.cells x) vs->FRL Z' H (t.cells y) vs->x=y
 | .int k,x,y,vs,a,b=>by
   obtain⟨v,vs',rfl,a1,_⟩:=a.zE2;obtain⟨v',vs2,e,b1,_⟩:=b.zE2;cases e;have:=(qLG a1).symm.trans (qLG b1);injection this
 | .bool,x,y,vs,a,b=>by
   obtain⟨v,vs',rfl,a1,_⟩:=a.zE2;obtain⟨v',vs2,e,b1,_⟩:=b.zE2;cases e;have:=(qLG a1).symm.trans (qLG b1);injection this
 | .str,x,y,vs,a,b=>by
   obtain⟨v,vs',rfl,a1,_⟩:=a.zE2;obtain⟨v',vs2,e,b1,_⟩:=b.zE2;cases e;have:=(qLG a1).symm.trans (qLG b1);injection this
 | .unit,_,_,_,_,_=>rfl
 | .nif,_,_,_,_,_=>rfl
 | .ol el k,xs,ys,vs,a,b=>by
   obtain⟨v,vs',rfl,a1,_⟩:=a.zE2;obtain⟨v',vs2,e,b1,_⟩:=b.zE2;cases e;exact q0R a1 b1
 | .raw,xs,ys,vs,a,b=>by
   obtain⟨v,vs',rfl,a1,_⟩:=a.zE2;obtain⟨v',vs2,e,b1,_⟩:=b.zE2;cases e;obtain⟨h1,ws,ws',h2,h3,h4⟩:=nN a1 b1;have:=h4 (by rw[qBU,qBU,h1]);subst this;exact qO7 xs ys ws h2 h3
 | .pair s t,x,y,vs,a,b=>by
   obtain⟨a1,a2⟩:=FRL.split (xs:=s.cells x.1) (ys:=t.cells x.2) a;obtain⟨b1,b2⟩:=FRL.split (xs:=s.cells y.1) (ys:=t.cells y.2) b;rw[s.zE8] at a1 a2 b1 b2;exact Prod.ext (s.uniq a1 b1) (t.uniq a2 b2)
 | .list el t,xs,ys,vs,a,b=>by
   obtain⟨v,vs',rfl,a1,_⟩:=a.zE2;obtain⟨v',vs2,e,b1,_⟩:=b.zE2;cases e;obtain⟨h1,ws,ws',h2,h3,h4⟩:=nN a1 b1;have:=h4 (by rw[zW,zW,h1]);subst this;exact go t xs ys ws h1 h2 h3
where
 go (t:Ty):∀ (xs ys:List t.sem) (vs:List Value),xs.length=ys.length->FRL Z H (xs.flatMap t.cells) vs->FRL Z' H (ys.flatMap t.cells) vs->xs=ys
 | [],[],_,_,_,_=>rfl
 | [],y::ys,vs,e,a,b=>by cases e
 | x::xs,[],vs,e,a,b=>by cases e
 | x::xs,y::ys,vs,e,a,b=>by
   rw[zO8] at a b;obtain⟨a1,a2⟩:=a.split;obtain⟨b1,b2⟩:=b.split;rw[t.zE8] at a1 a2 b1 b2;rw[t.uniq a1 b1,go t xs ys _ (by simpa using e) a2 b2]
def Ty.pv (t:Ty)(x:t.sem):PV:=cond t.one (.f (t.fv x)) (.agg ((t.cells x).map .f))
def Ty.en (t:Ty):PEn t.sem:=⟨t.pv,fun x y h=>by
 unfold Ty.pv at h
 cases ht:t.one with
 | true =>
   rw[ht] at h;injection h with h;exact t.inj x y (by rw[Ty.cells_one ht,Ty.cells_one ht,h])
 | false =>
   rw[ht] at h;injection h with h
   exact t.inj x y (q96 _ _ h),fun P Z Z' H x y v a b=>by
 unfold Ty.pv at a b
 cases ht:t.one with
 | true =>
   rw[ht] at a b
   cases a with
   | f a=>cases b with
     | f b=>exact t.uniq (vs:=[v]) (by rw[Ty.cells_one ht];exact .cons a ⟨rfl,fun i x v h=>by simp at h⟩) (by rw[Ty.cells_one ht];exact .cons b ⟨rfl,fun i x v h=>by simp at h⟩)
 | false =>
   rw[ht] at a b;obtain⟨vs,rfl,h1⟩:=VR.zHL a;obtain⟨vs',e,h2⟩:=VR.zHL b;cases e
   exact t.uniq (qAZ h1) (qAZ h2)⟩
@[reducible] def TyL:List Ty->Type
  | []=>Unit
  | [t]=>t.sem
  | t::u::ts=>t.sem×TyL (u::ts)
def pvL:(ts:List Ty)->TyL ts->List PV
 | [],_=>[]
 | [t],x=>[t.pv x]
 | t::u::ts,x=>t.pv x.1::pvL (u::ts) x.2
theorem qYB:∀ (ts:List Ty) (x y:TyL ts),pvL ts x=pvL ts y->x=y
 | [],_,_,_=>rfl
 | [t],x,y,h=>by injection h with h;exact t.en.inj x y h
 | t::u::ts,x,y,h=>by
   injection h with h1 h2;exact Prod.ext (t.en.inj _ _ h1) (qYB (u::ts) _ _ h2)
theorem qQR:∀ (ts:List Ty) (x y:TyL ts) (vs:List Value),VRL P Z H (fun _=>none) (pvL ts x) vs->VRL P Z' H (fun _=>none) (pvL ts y) vs->x=y
 | [],_,_,_,_,_=>rfl
 | [t],x,y,vs,a,b=>by
   obtain⟨v,vs',rfl,a1,_⟩:=a.zE2;obtain⟨v',vs2,e,b1,_⟩:=b.zE2;cases e;exact t.en.uniq P Z Z' H x y v a1 b1
 | t::u::ts,x,y,vs,a,b=>by
   obtain⟨v,vs',rfl,a1,a2⟩:=a.zE2;obtain⟨v',vs2,e,b1,b2⟩:=b.zE2;cases e;exact Prod.ext (t.en.uniq P Z Z' H _ _ v a1 b1) (qQR (u::ts) _ _ _ a2 b2)
def enL (ts:List Ty):AEn (TyL ts):=⟨pvL ts,qYB ts,fun P Z Z' H x y vs a b=>qQR ts x y vs a b⟩
def jD:(ts:List Ty)->TyL ts->PV:=fun ts x=>qC2 (pvL ts x)
end Go.Sv
namespace Go.Sv
open Go.Idl
variable [Gc]
variable {P:Program}
variable {b:Bool}{k:Nat}
def zEY (R:Type):Type:=Option R
section
variable {R α σ ρ:Type}
def zEY.run (t:zEY R):Option R:=t
def zEY.fail:zEY R:=(none:Option R)
def zEY.ret (r:R):zEY R:=some r
def zEY.ite (b:Bool)(x y:zEY R):zEY R:=cond b x y
noncomputable def zEY.bind (o:Option α)(k:α->zEY R):zEY R:=Option.rec zEY.fail k o
open Classical in
noncomputable def qKT (x y:Option R):Option R:=if x=y then x else none
noncomputable def zEY.both (x y:zEY R):zEY R:=zEY.bind (qKT x y) .ret
noncomputable def zEY.loop (f:σ->zEY (σ⊕ρ))(s:σ)(k:ρ->zEY R):zEY R:=zEY.bind (qZ (fun s=>(f s).run) s) k
end
theorem run_ite {R:Type}{x y:zEY R}{r:R}(h:(zEY.ite b x y).run=some r):(b=true∧x.run=some r)∨(b=false∧y.run=some r):=by
 cases b with
 | true=>exact .inl ⟨rfl,h⟩
 | false=>exact .inr ⟨rfl,h⟩
theorem run_bind {R α:Type}{o:Option α}{k:α->zEY R}{r:R}(h:(zEY.bind o k).run=some r):∃ a,o=some a∧(k a).run=some r:=by
 cases o with
 | none=>cases h
 | some a=>exact⟨a,rfl,h⟩
theorem qPR {R σ ρ:Type}{f:σ->zEY (σ⊕ρ)}{s:σ}{k:ρ->zEY R}{r:R}(h:(zEY.loop f s k).run=some r):∃ a,qZ (fun s=>(f s).run) s=some a∧(k a).run=some r:=run_bind h
theorem qX6 {R:Type}{x y:Option R}{r:R}(h:qKT x y=some r):x=some r∧y=some r:=by
 unfold qKT at h;split at h
 ·rename_i e;exact⟨h,e ▸ h⟩
 ·cases h
theorem q1W {R:Type}{x y:zEY R}{r:R}(h:(zEY.both x y).run=some r):x.run=some r∧y.run=some r:=by
 obtain⟨a,h1,h2⟩:=run_bind h;cases h2;exact qX6 h1
theorem qSX {R:Type}(x:Option R):qKT x x=x:=by unfold qKT;rw[if_pos rfl]
theorem qG {R:Type}{x:zEY R}{r:R}(h:(cond b x .fail).run=some r):b=true∧x.run=some r:=by
 cases b with
 | true=>exact⟨rfl,h⟩
 | false=>cases h
inductive SV where
 | d (t:Ty) (x:t.sem)
 | c (v:Value)
 | agg (l:List SV)
 | tup (l:List SV)
 | own (k g n:Nat)
 | sl (k g n o m:Nat)
 | ref (k off w:Nat)
 | elt (k g n w j off:Nat)
 | lp (t:Ty) (xs:List t.sem) (j off:Nat)
 | fn (f:FuncId) (first cap:List SV)
 | unk
 | yv
 | bq
 | mp (k:Nat)
 | opt (b:Bool) (k off w:Nat)
 | rfx (k off w:Nat)
 | etx (k g n w j off:Nat)
 | asl (el:TypeId) (k w n:Nat)
section
variable [Yl]
mutual
def SV.enc:SV->PV
 | .d t x=>.f (t.fv x)
 | .c v=>fvv v
 | .agg l=>.agg (qB l)
 | .tup l=>.tup (qB l)
 | .own k _ n=>.own k n 0 n
 | .sl k _ n o m=>.own k n o m
 | .ref k off w=>.ref k w off
 | .elt k _ n w j off=>.ref k (n*w) (j*w+off)
 | .lp t xs j off=>.lp (List.flatMap t.cells xs) (j*t.w+off)
 | .fn f a b=>.fn f (qB a) (qB b)
 | .unk=>.unk
 | .yv=>.yl Yl.l
 | .bq=>.bq
 | .mp k=>.mp k
 | .opt b k off w=>cond b (.ref k w off) (fvv (.pointer none))
 | .rfx k off w=>.ref k w off
 | .etx k _ n w j off=>.ref k (n*w) (j*w+off)
 | .asl el k _ n=>.asl el k n
def qB:List SV->List PV
 | []=>[]
 | x::l=>x.enc::qB l
end
theorem zH:∀ (l:List SV),qB l=l.map SV.enc
 | []=>by simp[qB]
 | x::l=>by simp[qB,zH l]
end
inductive SpO where
 | map (es:List (Value×Value))
 | iter (s:ByteArray) (pos:Nat)
 | mit (t:TypeId) (k since last:Nat) (seen:List Nat)
 | arr (el:TypeId) (k:IntKind) (xs:List Int)
def kC:Nat->List (Value×Value)->List MapEntry
 | _,[]=>[]
 | i,p::l=>⟨p.1,p.2,i⟩::kC (i+1) l
def SpO.enc:SpO->PO
 | .map es=>⟨1000000001,false,wU (List.length es) (kC 0 es)⟩
 | .iter s pos=>⟨1000000000,false,qDS s pos⟩
 | .mit _ k since last seen=>⟨1000000002,false,qMT (.mp k) since last seen⟩
 | .arr el k xs=>⟨el,false,xs.map fun x=>fvv (.int k x)⟩
inductive SO where
 | spc (w:Nat) (x:SpO)
 | cells (el:TypeId) (w:Nat) (l:List SV)
 | list (el:TypeId) (gr:Bool) (g w:Nat) (t:Ty) (xs:List t.sem)
section
variable [Yl]
def SO.enc:SO->PO
 | .cells el _ l=>⟨el,false,qB l⟩
 | .list el gr _ _ t xs=>⟨el,gr,(List.flatMap t.cells xs).map .f⟩
 | .spc _ x=>x.enc
def SO.w:SO->Nat
 | .cells _ w _=>w
 | .list _ _ _ w _ _=>w
 | .spc w _=>w
structure SH where
 next:Nat
 l:List (Nat×SO)
def slk (k:Nat):List (Nat×SO)->Option SO
 | []=>none
 | (j,o)::l=>cond (k==j) (some o) (slk k l)
def sst (k:Nat)(o:SO):List (Nat×SO)->List (Nat×SO)
 | []=>[]
 | (j,p)::l=>cond (k==j) ((j,o)::l) ((j,p)::sst k o l)
def sdl (k:Nat):List (Nat×SO)->List (Nat×SO)
 | []=>[]
 | (j,p)::l=>cond (k==j) (sdl k l) ((j,p)::sdl k l)
def qD:List (Nat×SO)->PHp
 | []=>[]
 | (j,o)::l=>(j,o.enc)::qD l
theorem vC (k:Nat):∀ (l:List (Nat×SO)),qA k (qD l)=(slk k l).map SO.enc
 | []=>rfl
 | (j,o)::l=>by
   show cond (k==j) (some o.enc) (qA k (qD l))=(cond (k==j) (some o) (slk k l)).map SO.enc;cases k==j
   ·exact vC k l
   ·rfl
theorem xQ (k:Nat)(o:SO):∀ (l:List (Nat×SO)),qD (sst k o l)=xW k o.enc (qD l)
 | []=>rfl
 | (j,p)::l=>by
   show qD (cond (k==j) ((j,o)::l) ((j,p)::sst k o l))=cond (k==j) ((j,o.enc)::qD l) ((j,p.enc)::xW k o.enc (qD l));cases k==j
   ·show (j,p.enc)::qD (sst k o l)=_;rw[xQ k o l];rfl
   ·rfl
theorem fB (k:Nat):∀ (l:List (Nat×SO)),qD (sdl k l)=nR k (qD l)
 | []=>rfl
 | (j,p)::l=>by
   show qD (cond (k==j) (sdl k l) ((j,p)::sdl k l))=cond (k==j) (nR k (qD l)) ((j,p.enc)::nR k (qD l));cases k==j
   ·show (j,p.enc)::qD (sdl k l)=_;rw[fB k l];rfl
   ·exact fB k l
end
theorem qE5 {k j:Nat}{o:SO}(hj:j≠k):∀ (l:List (Nat×SO)),slk j (sst k o l)=slk j l
 | []=>rfl
 | (i,p)::l=>by
   show slk j (cond (k==i) ((i,o)::l) ((i,p)::sst k o l))=cond (j==i) (some p) (slk j l)
   cases h:k==i with
   | true =>
     have:k=i:=by simpa using h
     subst this;show cond (j==k) (some o) (slk j l)=_;rw[show (j==k)=false by simpa using hj];rfl
   | false =>
     show cond (j==i) (some p) (slk j (sst k o l))=_;rw[qE5 hj l]
theorem qXG {k:Nat}{o p:SO}:∀ {l:List (Nat×SO)},slk k l=some p->slk k (sst k o l)=some o
 | (i,q)::l,h=>by
   have h:cond (k==i) (some q) (slk k l)=some p:=h;show slk k (cond (k==i) ((i,o)::l) ((i,q)::sst k o l))=some o
   cases hi:k==i with
   | true =>
     show cond (k==i) (some o) (slk k l)=some o;rw[hi];rfl
   | false =>
     rw[hi] at h;show cond (k==i) (some q) (slk k (sst k o l))=some o;rw[hi];exact qXG (l:=l) h
theorem kN {k j:Nat}(hj:j≠k):∀ (l:List (Nat×SO)),slk j (sdl k l)=slk j l
 | []=>rfl
 | (i,p)::l=>by
   show slk j (cond (k==i) (sdl k l) ((i,p)::sdl k l))=cond (j==i) (some p) (slk j l)
   cases h:k==i with
   | true =>
     have:k=i:=by simpa using h
     subst this;rw[show (j==k)=false by simpa using hj];exact kN hj l
   | false =>
     show cond (j==i) (some p) (slk j (sdl k l))=_;rw[kN hj l]
theorem qLJ (k:Nat):∀ (l:List (Nat×SO)),slk k (sdl k l)=none
 | []=>rfl
 | (i,p)::l=>by
   show slk k (cond (k==i) (sdl k l) ((i,p)::sdl k l))=none
   cases h:k==i with
   | true=>exact qLJ k l
   | false =>
     show cond (k==i) (some p) (slk k (sdl k l))=none;rw[h];exact qLJ k l
theorem yD {j:Nat}{o:SO}{l:List (Nat×SO)}(hj:j≠k):slk j ((k,o)::l)=slk j l:=by
 show cond (j==k) (some o) (slk j l)=_;rw[show (j==k)=false by simpa using hj];rfl
theorem kZ {o:SO}{l:List (Nat×SO)}:slk k ((k,o)::l)=some o:=by
 show cond (k==k) (some o) (slk k l)=_;simp
def qW7 (h:SH)(k g n:Nat):Prop:=g < h.next∧∀ el gr w t xs,slk k h.l=some (.list el gr g w t xs)->n=xs.length
mutual
def SV.ok (h:SH):SV->Prop
 | .agg l=>okL h l
 | .tup l=>okL h l
 | .own k g n=>qW7 h k g n
 | .sl k g n o m=>qW7 h k g n∧o+m<=n
 | .elt k g n _ _ _=>qW7 h k g n
 | .etx k g n _ _ _=>qW7 h k g n
 | .fn _ a b=>okL h a∧okL h b
 | .asl _ k w n=>w < h.next∧∀ ob,slk k h.l=some ob->ob.w=w->∃ el ik,∃ xs:List Int,ob=.spc w (.arr el ik xs)∧n=xs.length
 | _=>True
def okL (h:SH):List SV->Prop
 | []=>True
 | x::l=>x.ok h∧okL h l
end
theorem zM {h:SH}:∀ {l:List SV},okL h l ↔ ∀ x∈l,x.ok h
 | []=>by simp[okL]
 | x::l=>by simp[okL,zM (l:=l)]
structure OkH (P:Program) (h:SH):Prop where
 ver:∀ k ob,slk k h.l=some ob->ob.w < h.next
 cells:∀ k el w l,slk k h.l=some (.cells el w l)->okL h l
 list:∀ k el gr g w t xs,slk k h.l=some (.list el gr g w t xs)->g < h.next∧szT P el=some t.w∧0 < t.w
structure Keep (h h':SH):Prop where
 next:h.next<=h'.next
 same:∀ k ob,slk k h'.l=some ob->ob.w < h.next->slk k h.l=some ob
 len:∀ k el gr g w t xs,slk k h'.l=some (.list el gr g w t xs)->g < h.next->∃ w0,∃ xs0:List t.sem,slk k h.l=some (.list el gr g w0 t xs0)∧xs0.length=xs.length
theorem Keep.refl (h:SH):Keep h h:=⟨zOI _,fun _ _ h _=>h,fun k el gr g w t xs h _=>⟨w,xs,h,rfl⟩⟩
theorem Keep.trans {a b c:SH}(x:Keep a b)(y:Keep b c):Keep a c :=
 ⟨zO7 x.next y.next,fun k ob h hw=>x.same k ob (y.same k ob h (zOM hw x.next)) hw,fun k el gr g w t xs h hg=>by
   obtain⟨w1,xs1,h1,e1⟩:=y.len k el gr g w t xs h (zOM hg x.next);obtain⟨w2,xs2,h2,e2⟩:=x.len k el gr g w1 t xs1 h1 hg
   exact⟨w2,xs2,h2,e2.trans e1⟩⟩
theorem qW7.keep {h h':SH}{g n:Nat}(a:qW7 h k g n)(b:Keep h h'):qW7 h' k g n :=
 ⟨zOM a.1 b.next,fun el gr w t xs hk=>by
   obtain⟨w0,xs0,h0,e0⟩:=b.len k el gr g w t xs hk a.1
   rw[<-e0];exact a.2 el gr w0 t xs0 h0⟩
mutual
theorem SV.ok.keep {h h':SH}(b:Keep h h'):∀ {x:SV},x.ok h->x.ok h'
 | .agg l,a=>by simp only[SV.ok] at a ⊢;exact qI b a
 | .tup l,a=>by simp only[SV.ok] at a ⊢;exact qI b a
 | .own k g n,a=>by simp only[SV.ok] at a ⊢;exact a.keep b
 | .sl k g n o m,a=>by simp only[SV.ok] at a ⊢;exact⟨a.1.keep b,a.2⟩
 | .elt k g n w j off,a=>by simp only[SV.ok] at a ⊢;exact a.keep b
 | .etx k g n w j off,a=>by simp only[SV.ok] at a ⊢;exact a.keep b
 | .fn f x y,a=>by simp only[SV.ok] at a ⊢;exact⟨qI b a.1,qI b a.2⟩
 | .d _ _,_=>by simp[SV.ok]
 | .c _,_=>by simp[SV.ok]
 | .ref _ _ _,_=>by simp[SV.ok]
 | .lp _ _ _ _,_=>by simp[SV.ok]
 | .unk,_=>by simp[SV.ok]
 | .yv,_=>by simp[SV.ok]
 | .bq,_=>by simp[SV.ok]
 | .mp _,_=>by simp[SV.ok]
 | .opt _ _ _ _,_=>by simp[SV.ok]
 | .rfx _ _ _,_=>by simp[SV.ok]
 | .asl el k w n,a=>by
   simp only[SV.ok] at a ⊢;exact⟨zOM a.1 b.next,fun ob ho hw=>a.2 ob (b.same k ob ho (by rw[hw];exact a.1)) hw⟩
theorem qI {h h':SH}(b:Keep h h'):∀ {l:List SV},okL h l->okL h' l
 | [],_=>by simp[okL]
 | x::l,a=>by simp only[okL] at a ⊢;exact⟨SV.ok.keep b a.1,qI b a.2⟩
end
def SH.new (h:SH)(k:Nat)(f:Nat->SO):SH:=⟨h.next+1,(k,f h.next)::h.l⟩
def SH.put (h:SH)(k:Nat)(f:Nat->SO):SH:=⟨h.next+1,sst k (f h.next) h.l⟩
def SH.del (h:SH)(k:Nat):SH:=⟨h.next,sdl k h.l⟩
def q89 (P:Program)(h:SH)(n:Nat):SO->Prop
 | .cells _ w l=>w=n∧okL h l
 | .list el _ g w t _=>w=n∧g=n∧szT P el=some t.w∧0 < t.w
 | .spc w _=>w=n
theorem q2T {h:SH}{f:Nat->SO}(hw:(f h.next).w=h.next)(hg:∀ el gr g w t xs,f h.next=.list el gr g w t xs->g=h.next):Keep h (h.new k f) :=
 ⟨zR1 _,fun j ob hj hlt=>by
   by_cases e:j=k
   ·subst e;rw[show slk j (h.new j f).l=some (f h.next) from kZ] at hj;cases hj;omega
   ·rwa [show slk j (h.new k f).l=slk j h.l from yD e] at hj,fun j el gr g w t xs hj hlt=>by
   by_cases e:j=k
   ·subst e;rw[show slk j (h.new j f).l=some (f h.next) from kZ] at hj;have:=hg _ _ _ _ _ _ (zPC hj);omega
   ·rw[show slk j (h.new k f).l=slk j h.l from yD e] at hj
    exact⟨w,xs,hj,rfl⟩⟩
theorem xI {h:SH}{f:Nat->SO}(a:OkH P h)(hf:q89 P h h.next (f h.next)):Keep h (h.new k f)∧OkH P (h.new k f):=by
 have hw:(f h.next).w=h.next:=by
  cases hq:f h.next with
  | cells el w l=>rw[hq] at hf;exact hf.1
  | list el gr g w t xs=>rw[hq] at hf;exact hf.1
  | spc w x=>rw[hq] at hf;exact hf
 have hk:Keep h (h.new k f):=q2T hw fun el gr g w t xs e=>by rw[e] at hf;exact hf.2.1
 refine⟨hk,⟨fun j ob hj=>?_,fun j el w l hj=>?_,fun j el gr g w t xs hj=>?_⟩⟩
 ·by_cases e:j=k
  ·subst e;rw[show slk j (h.new j f).l=some (f h.next) from kZ] at hj;cases hj;rw[hw];exact zPB _
  ·rw[show slk j (h.new k f).l=slk j h.l from yD e] at hj;exact zP4 (a.ver j ob hj)
 ·by_cases e:j=k
  ·subst e;rw[show slk j (h.new j f).l=some (f h.next) from kZ] at hj;rw[zPC hj] at hf;exact qI hk hf.2
  ·rw[show slk j (h.new k f).l=slk j h.l from yD e] at hj;exact qI hk (a.cells j el w l hj)
 ·by_cases e:j=k
  ·subst e;rw[show slk j (h.new j f).l=some (f h.next) from kZ] at hj;rw[zPC hj] at hf;exact⟨by rw[hf.2.1];exact zPB _,hf.2.2⟩
  ·rw[show slk j (h.new k f).l=slk j h.l from yD e] at hj;have:=a.list j el gr g w t xs hj;exact⟨zP4 this.1,this.2⟩
def zCR (h:SH)(n:Nat):SO->SO->Prop
 | .cells _ _ _,.cells _ w' l'=>w'=n∧okL h l'
 | .list el gr g _ t xs,ob'=>∃ xs':List t.sem,ob'=.list el gr g n t xs'∧xs.length=xs'.length
 | .spc _ _,.spc w' _=>w'=n
 | _,_=>False
theorem vO {h:SH}{f:Nat->SO}{ob:SO}(a:OkH P h)(hk:slk k h.l=some ob)(hf:zCR h h.next ob (f h.next)):Keep h (h.put k f)∧OkH P (h.put k f):=by
 have hs:slk k (h.put k f).l=some (f h.next):=qXG hk;have hn:∀ j,j≠k->slk j (h.put k f).l=slk j h.l:=fun j hj=>qE5 hj _
 have hw:(f h.next).w=h.next:=by
  cases ob with
  | cells el w l =>
    cases hq:f h.next with
    | cells el' w' l'=>rw[hq] at hf;exact hf.1
    | list=>rw[hq] at hf;exact hf.elim
    | spc=>rw[hq] at hf;exact hf.elim
  | spc w0 x0 =>
    cases hq:f h.next with
    | spc w' x'=>rw[hq] at hf;exact hf
    | list=>rw[hq] at hf;exact hf.elim
    | cells=>rw[hq] at hf;exact hf.elim
  | list el gr g w t xs =>
    obtain⟨xs',e,_⟩:=hf;rw[e];rfl
 have hkp:Keep h (h.put k f):=by
  refine⟨zR1 _,fun j o hj hlt=>?_,fun j el gr g w t xs hj hlt=>?_⟩
  ·by_cases e:j=k
   ·subst e;rw[hs] at hj;cases hj;omega
   ·rwa [hn j e] at hj
  ·by_cases e:j=k
   ·subst e;rw[hs] at hj;have hj:=zPC hj
    cases ob with
    | cells el0 w0 l0 =>
      rw[hj] at hf;exact hf.elim
    | spc w0 x0 =>
      rw[hj] at hf;exact hf.elim
    | list el0 gr0 g0 w0 t0 xs0 =>
      obtain⟨xs',e2,e3⟩:=hf;rw[e2] at hj;injection hj with a1 a2 a3 a4 a5 a6;subst a1 a2 a3 a5;cases a6;exact⟨w0,xs0,hk,e3⟩
   ·rw[hn j e] at hj;exact⟨w,xs,hj,rfl⟩
 refine⟨hkp,⟨fun j o hj=>?_,fun j el w l hj=>?_,fun j el gr g w t xs hj=>?_⟩⟩
 ·by_cases e:j=k
  ·subst e;rw[hs] at hj;cases hj;rw[hw];exact zPB _
  ·rw[hn j e] at hj;exact zP4 (a.ver j o hj)
 ·by_cases e:j=k
  ·subst e;rw[hs] at hj;have hj:=zPC hj
   cases ob with
   | cells el0 w0 l0=>rw[hj] at hf;exact qI hkp hf.2
   | spc w0 x0=>rw[hj] at hf;exact hf.elim
   | list el0 gr0 g0 w0 t0 xs0 =>
     obtain⟨xs',e2,e3⟩:=hf;rw[e2] at hj;cases hj
  ·rw[hn j e] at hj;exact qI hkp (a.cells j el w l hj)
 ·by_cases e:j=k
  ·subst e;rw[hs] at hj;have hj:=zPC hj
   cases ob with
   | cells el0 w0 l0=>rw[hj] at hf;exact hf.elim
   | spc w0 x0=>rw[hj] at hf;exact hf.elim
   | list el0 gr0 g0 w0 t0 xs0 =>
     obtain⟨xs',e2,e3⟩:=hf;rw[e2] at hj;injection hj with a1 a2 a3 a4 a5 a6;subst a1 a2 a3 a5;have:=a.list j _ _ _ _ _ _ hk;exact⟨zP4 this.1,this.2⟩
  ·rw[hn j e] at hj;have:=a.list j el gr g w t xs hj;exact⟨zP4 this.1,this.2⟩
theorem gU {h:SH}(a:OkH P h):Keep h (h.del k)∧OkH P (h.del k):=by
 have hl:∀ j ob,slk j (h.del k).l=some ob->slk j h.l=some ob:=fun j ob hj=>by
  by_cases e:j=k
  ·subst e;rw[show slk j (h.del j).l=none from qLJ j _] at hj;cases hj
  ·rwa [show slk j (h.del k).l=slk j h.l from kN e _] at hj
 have hkp:Keep h (h.del k):=⟨zOI _,fun j ob hj _=>hl j ob hj,fun j el gr g w t xs hj _=>⟨w,xs,hl _ _ hj,rfl⟩⟩
 exact⟨hkp,⟨fun j ob hj=>a.ver j ob (hl j ob hj),fun j el w l hj=>qI hkp (a.cells j el w l (hl _ _ hj)),fun j el gr g w t xs hj=>a.list j el gr g w t xs (hl _ _ hj)⟩⟩
def GV (Γ:Option Type):Type:=match Γ with
 | none=>Unit
 | some γ=>γ
def GS (Γ:Option Type)(S:Type):Type:=match Γ with
 | none=>S
 | some γ=>γ×S
def gj:{Γ:Option Type}->{S:Type}->GV Γ->S->GS Γ S
 | none,_,_,s=>s
 | some _,_,g,s=>(g,s)
def g1:{Γ:Option Type}->{S:Type}->GS Γ S->GV Γ
 | none,_,_=>()
 | some _,_,p=>p.1
def g2:{Γ:Option Type}->{S:Type}->GS Γ S->S
 | none,_,s=>s
 | some _,_,p=>p.2
theorem q23 {Γ:Option Type}{S:Type}{g:GV Γ}{s:S}:g1 (gj g s)=g:=by cases Γ <;> rfl
theorem q12 {Γ:Option Type}{S:Type}{g:GV Γ}{s:S}:g2 (gj g s)=s:=by cases Γ <;> rfl
structure Ent where
 as:List Ty
 rs:List Ty
 F:TyL as->Option (TyL rs)
abbrev yE:=List (FuncId×Ent)
def slT (g:FuncId):yE->Option Ent
 | []=>none
 | (k,e)::l=>cond (Nat.beq g k) (some e) (slT g l)
structure Sh where
 d:List Nat
 o:List Nat
 s:List (Nat×Nat)
 v:List (Nat×TypeId)
 ex:List Nat
 b:List (Nat×List (Option Nat)):=[]
 bv:List (Nat×Nat×TypeId×Nat):=[]
structure Ab where
 A:List Ty->Type
 f:∀ ts,TyL ts->A ts
structure zHM where
 d:List Nat
 os:List (Nat×Bool)
 s:List (Nat×Nat)
 b:List (Nat×List (Option Nat))
 ts:List Ty
def zHM.sh (j:zHM):Sh:=⟨j.d,j.os.map (·.1),j.s,[],[],j.b,[]⟩
structure An where
 fz:List (Nat×List (Nat×TypeId))
 lp:List (Nat×Sh)
 rg:List (Nat×Sh):=[]
 ab:List (Nat×Ab):=[]
 jn:List (Nat×zHM):=[]
def lkA.{u}{α:Type u}(i:Nat):List (Nat×α)->Option α
 | []=>none
 | (j,x)::l=>cond (Nat.beq i j) (some x) (lkA i l)
structure zFI where
 as:List Ty
 ys:List Ty
 yt:List TypeId
 F:TyL as->(γ:Type)->(γ->TyL ys->Option (γ×Bool))->γ->Option γ
def slI (g:FuncId):List (FuncId×zFI)->Option zFI
 | []=>none
 | (k,e)::l=>cond (Nat.beq g k) (some e) (slI g l)
structure YI (Γ:Type) where
 ys:List Ty
 yt:List TypeId
 stp:Γ->TyL ys->Option (Γ×Bool)
def yi0:YI Unit:=⟨[],[],fun _ _=>none⟩
abbrev CIT:Type 1:=(R:Type)->Nm->FuncId->List SV->SH->(SV->SH->zEY R)->zEY R
end Go.Sv
namespace Go.Sv
open Go.Idl
variable {a b env l:List SV}{el t:TypeId}{ik k:IntKind}{j n off w w':Nat}{v x:SV}{xs ys:List Int}
noncomputable section
variable [Gc]
variable [Yl]
variable {P:Program}{h:SH}{R:Type}{r:R}
def q94:Value->SV
 | .agg cs=>cond (jZ okC cs.toList) (.agg (kS .c cs.toList)) .unk
 | .tuple cs=>cond (jZ okC cs.toList) (.tup (kS .c cs.toList)) .unk
 | v=>cond (okC v) (.c v) .unk
def kG (env:List SV):Operand->SV
 | .tmp t=>(zL env t).getD .unk
 | .const v=>q94 v
 | .global _=>.unk
 | .func g=>.c (.func (.func g) #[] #[])
theorem zB3:∀ (l:List Value),qB (kS .c l)=kS fvv l
 | []=>by simp[kS,qB]
 | v::l=>by
   show qB (.c v::kS .c l)=fvv v::kS fvv l;simp[qB,zB3 l,SV.enc]
omit [Yl] in
theorem zBT:∀ (l:List Value),okL h (kS .c l)
 | []=>by simp[kS,okL]
 | v::l=>by
   show okL h (.c v::kS .c l);simp[okL,zBT l,SV.ok]
theorem q1N (v:Value):ofC v=(q94 v).enc:=by
 cases v with
 | agg cs =>
   show cond _ _ _=(cond (jZ okC cs.toList) (SV.agg (kS .c cs.toList)) SV.unk).enc;cases jZ okC cs.toList
   ·simp[SV.enc]
   ·simp[SV.enc,zB3]
 | tuple cs =>
   show cond _ _ _=(cond (jZ okC cs.toList) (SV.tup (kS .c cs.toList)) SV.unk).enc;cases jZ okC cs.toList
   ·simp[SV.enc]
   ·simp[SV.enc,zB3]
 | _ =>
   simp only[ofC,q59,q94];cases okC _ <;> simp[SV.enc]
omit [Yl] in
theorem q7D (v:Value):(q94 v).ok h:=by
 cases v with
 | agg cs =>
   show (cond (jZ okC cs.toList) (.agg (kS .c cs.toList)) .unk:SV).ok h;cases jZ okC cs.toList
   ·simp[SV.ok]
   ·simp[SV.ok,zBT]
 | tuple cs =>
   show (cond (jZ okC cs.toList) (.tup (kS .c cs.toList)) .unk:SV).ok h;cases jZ okC cs.toList
   ·simp[SV.ok]
   ·simp[SV.ok,zBT]
 | _ =>
   simp only[q94];cases okC _ <;> simp[SV.ok]
theorem qW (env:List SV)(t:Nat):zL (qB env) t=(zL env t).map SV.enc:=by
 rw[qF,qF,zH,zOX]
omit [Yl] in
theorem mW {t:Nat}(ho:okL h env)(hx:zL env t=some x):x.ok h:=by
 rw[qF] at hx;exact zM.1 ho x (zPP hx)
theorem qO (env:List SV)(x:Operand):qK (qB env) x=(kG env x).enc:=by
 cases x with
 | tmp t =>
   show (zL (qB env) t).getD .unk=((zL env t).getD .unk).enc;rw[qW];cases zL env t <;> simp[SV.enc]
 | const v=>exact q1N v
 | global g=>simp[qK,kG,SV.enc]
 | func g=>simp[qK,kG,SV.enc]
omit [Yl] in
theorem mG (ho:okL h env)(x:Operand):(kG env x).ok h:=by
 cases x with
 | tmp t =>
   show ((zL env t).getD .unk).ok h
   cases hx:zL env t with
   | none=>simp[SV.ok]
   | some y=>exact mW ho hx
 | const v=>exact q7D v
 | global g=>simp[kG,SV.ok]
 | func g=>simp[kG,SV.ok]
def asI:SV->Option (IntKind×Int)
 | .d (.int k) x=>some (k,x)
 | .c (.int k x)=>some (k,x)
 | _=>none
def asB:SV->Option Bool
 | .d .bool x=>some x
 | .c (.bool x)=>some x
 | _=>none
def asS:SV->Option ByteArray
 | .d .str x=>some x
 | .c (.string x)=>some x
 | _=>none
theorem yF {x:Int}(e:asI v=some (k,x)):v.enc=fvv (.int k x):=by
 unfold asI at e;split at e
 ·cases e;simp[SV.enc,Ty.fv,fvv]
 ·cases e;simp[SV.enc]
 ·cases e
theorem rR {x:Bool}(e:asB v=some x):v.enc=fvv (.bool x):=by
 unfold asB at e;split at e
 ·cases e;simp[SV.enc,Ty.fv,fvv]
 ·cases e;simp[SV.enc]
 ·cases e
theorem gT {x:ByteArray}(e:asS v=some x):v.enc=fvv (.string x):=by
 unfold asS at e;split at e
 ·cases e;simp[SV.enc,Ty.fv,fvv]
 ·cases e;simp[SV.enc]
 ·cases e
def Ty.svs:(t:Ty)->t.sem->List SV
 | .int k,x=>[.d (.int k) x]
 | .bool,x=>[.d .bool x]
 | .str,x=>[.d .str x]
 | .unit,_=>[]
 | .list el t,x=>[.d (.list el t) x]
 | .pair a b,x=>a.svs x.1++b.svs x.2
 | .raw,x=>[.d .raw x]
 | .ol el k,x=>[.d (.ol el k) x]
 | .nif,x=>[.d .nif x]
theorem bJ (a b:List SV):qB (a++b)=qB a++qB b:=by simp[zH]
theorem gX:∀ (t:Ty) (x:t.sem),qB (t.svs x)=(t.cells x).map .f
 | .int k,x=>by simp[Ty.svs,Ty.cells,qB,SV.enc,Ty.fv]
 | .bool,x=>by simp[Ty.svs,Ty.cells,qB,SV.enc,Ty.fv]
 | .str,x=>by simp[Ty.svs,Ty.cells,qB,SV.enc,Ty.fv]
 | .unit,x=>by simp[Ty.svs,Ty.cells,qB]
 | .list el t,x=>by simp[Ty.svs,Ty.cells,qB,SV.enc,Ty.fv]
 | .raw,x=>by simp[Ty.svs,Ty.cells,qB,SV.enc,Ty.fv]
 | .ol el k,x=>by simp[Ty.svs,Ty.cells,qB,SV.enc,Ty.fv]
 | .nif,x=>by simp[Ty.svs,Ty.cells,qB,SV.enc,Ty.fv]
 | .pair a b,x=>by
   show qB (a.svs x.1++b.svs x.2)=(a.cells x.1++b.cells x.2).map .f;rw[bJ,gX a,gX b,zPS]
omit [Yl] in
theorem gZ (x:okL h a)(y:okL h b):okL h (a++b):=zM.2 fun z hz=>by
 rcases zPJ.1 hz with q | q
 ·exact zM.1 x z q
 ·exact zM.1 y z q
omit [Yl] in
theorem qDR:∀ (t:Ty) (x:t.sem),okL h (t.svs x)
 | .int k,x=>by simp[Ty.svs,okL,SV.ok]
 | .bool,x=>by simp[Ty.svs,okL,SV.ok]
 | .str,x=>by simp[Ty.svs,okL,SV.ok]
 | .unit,x=>by simp[Ty.svs,okL]
 | .list el t,x=>by simp[Ty.svs,okL,SV.ok]
 | .raw,x=>by simp[Ty.svs,okL,SV.ok]
 | .ol el k,x=>by simp[Ty.svs,okL,SV.ok]
 | .nif,x=>by simp[Ty.svs,okL,SV.ok]
 | .pair a b,x=>gZ (qDR a x.1) (qDR b x.2)
def q5F (k:IntKind)(v:SV):Option Int:=match asI v with
 | some (k',x)=>cond (decide (k'=k)) (some x) none
 | none=>none
def zDH (el:TypeId)(t:Ty):SV->Option (List t.sem)
 | .d (.list el' t') xs=>if e:t'=t then cond (Nat.beq el' el) (some (e ▸ xs)) none else none
 | _=>none
def asR:SV->Option (List (Value×Value))
 | .d .raw x=>some x
 | _=>none
def q5W (el:TypeId)(k:IntKind):SV->Option (List Int)
 | .d (.ol el' k') xs=>cond (Nat.beq el' el&&decide (k'=k)) (some xs) none
 | .c (.slice none 0 0)=>some []
 | _=>none
def q50:SV->Option Unit
 | .d .nif _=>some ()
 | .c .nilIface=>some ()
 | _=>none
def Ty.zJD:(t:Ty)->SV->Option t.sem
 | .int k,v=>q5F k v
 | .bool,v=>asB v
 | .str,v=>asS v
 | .list el t,v=>zDH el t v
 | .unit,_=>none
 | .pair _ _,_=>none
 | .raw,v=>asR v
 | .ol el k,v=>q5W el k v
 | .nif,v=>q50 v
theorem oF {x:Int}(e:q5F k v=some x):v.enc=fvv (.int k x):=by
 unfold q5F at e;split at e
 ·rename_i k' x' hx
  cases hk:decide (k'=k) with
  | false=>rw[hk] at e;cases e
  | true =>
    rw[hk] at e;cases e;have:k'=k:=by simpa using hk
    subst this;exact yF hx
 ·cases e
omit [Yl] in
theorem qZ0 {t:Ty}{x:List t.sem}(e:zDH el t v=some x):v=.d (.list el t) x:=by
 unfold zDH at e;split at e
 ·rename_i el' t' xs;split at e
  ·rename_i ht;subst ht
   cases hk:Nat.beq el' el with
   | false=>rw[hk] at e;cases e
   | true =>
     rw[hk] at e;cases e;have:el'=el:=zOH hk;subst this;rfl
  ·cases e
 ·cases e
theorem qW4 {x:List Int}(e:q5W el k v=some x):v.enc=.f (fvo el k x):=by
 unfold q5W at e;split at e
 ·rename_i el' k' xs
  cases hk:(Nat.beq el' el&&decide (k'=k)) with
  | false=>rw[hk] at e;cases e
  | true =>
    rw[hk] at e;cases e;rw[zOG] at hk;have h1:el'=el:=zOH hk.1;have h2:k'=k:=by simpa using hk.2
    subst h1 h2;simp[SV.enc,Ty.fv]
 ·cases e;simp[SV.enc,fvo,fvv]
 ·cases e
theorem tL:∀ {t:Ty} {v:SV} {x:t.sem},t.zJD v=some x->v.enc=.f (t.fv x)∧t.one=true
 | .int k,v,x,e=>⟨oF e,rfl⟩
 | .bool,v,x,e=>⟨rR e,rfl⟩
 | .str,v,x,e=>⟨gT e,rfl⟩
 | .list el t,v,x,e=>⟨by rw[qZ0 e];simp[SV.enc],rfl⟩
 | .ol el k,v,x,e=>⟨qW4 e,rfl⟩
 | .nif,v,x,e=>by
   have e:q50 v=some x:=e;refine⟨?_,rfl⟩;unfold q50 at e;split at e
   ·simp[SV.enc,Ty.fv]
   ·simp[SV.enc,Ty.fv,fvv]
   ·cases e
 | .raw,v,x,e=>by
   have e:asR v=some x:=e;refine⟨?_,rfl⟩;unfold asR at e;split at e
   ·cases e;simp[SV.enc]
   ·cases e
 | .unit,v,x,e=>by cases e
 | .pair a b,v,x,e=>by cases e
def q2V (t:Ty):List SV->Option (t.sem×List SV)
 | v::l=>match t.zJD v with
   | some x=>some (x,l)
   | none=>none
 | []=>none
def Ty.zHZ:(t:Ty)->List SV->Option (t.sem×List SV)
 | .int k,l=>q2V (.int k) l
 | .bool,l=>q2V .bool l
 | .str,l=>q2V .str l
 | .raw,l=>q2V .raw l
 | .ol el k,l=>q2V (.ol el k) l
 | .nif,l=>q2V .nif l
 | .list el t,l=>q2V (.list el t) l
 | .unit,l=>some ((),l)
 | .pair a b,l=>match a.zHZ l with
   | some (x,l1)=>(match b.zHZ l1 with
     | some (y,l2)=>some ((x,y),l2)
     | none=>none)
   | none=>none
theorem gL {t:Ty}{l':List SV}{x:t.sem}(e:q2V t l=some (x,l')):qB l=(t.cells x).map .f++qB l':=by
 cases l with
 | nil=>cases e
 | cons v l =>
   unfold q2V at e;simp only at e;split at e
   ·rename_i y hy;cases e;obtain⟨h1,h2⟩:=tL hy;rw[Ty.cells_one h2];simp[qB,h1]
   ·cases e
theorem tT:∀ {t:Ty} {l l':List SV} {x:t.sem},t.zHZ l=some (x,l')->qB l=(t.cells x).map .f++qB l'
 | .int k,l,l',x,e=>gL e
 | .bool,l,l',x,e=>gL e
 | .str,l,l',x,e=>gL e
 | .raw,l,l',x,e=>gL e
 | .ol _ _,l,l',x,e=>gL e
 | .nif,l,l',x,e=>gL e
 | .list el t,l,l',x,e=>gL e
 | .unit,l,l',x,e=>by cases e;simp[Ty.cells]
 | .pair a b,l,l',x,e=>by
   unfold Ty.zHZ at e;split at e
   ·rename_i x1 l1 h1;split at e
    ·rename_i y l2 h2;cases e;show qB l=(a.cells x1++b.cells y).map .f++qB l';rw[tT h1,tT h2,zPS,zPE]
    ·cases e
   ·cases e
def Ty.zHN (t:Ty)(l:List SV):Option t.sem:=match t.zHZ l with
 | some (x,[])=>some x
 | _=>none
theorem nD {t:Ty}{x:t.sem}(e:t.zHN l=some x):qB l=(t.cells x).map .f:=by
 unfold Ty.zHN at e;split at e
 ·rename_i y hy;cases e;rw[tT hy];simp[qB]
 ·cases e
def qGW (P:Program)(t:TypeId)(l:List SV)(off:Nat):Option SV:=match qOX P t with
 | some true=>(match szT P t with
   | some n=>cond (Nat.ble (off+n) l.length) (some (.agg ((l.drop off).take n))) none
   | none=>none)
 | some false=>zL l off
 | none=>none
omit [Yl] in
theorem qMU {b:List SV}(x:okL h a)(hs:∀ z∈b,z∈a):okL h b:=zM.2 fun z hz=>zM.1 x z (hs z hz)
theorem qHN (e:qGW P t l off=some v):bC P t (qB l) off=some v.enc∧(okL h l->v.ok h):=by
 unfold qGW at e;unfold bC;split at e
 ·rename_i ha;rw[ha];simp only;split at e
  ·rename_i n hn;rw[hn];simp only
   cases hc:Nat.ble (off+n) l.length with
   | false=>rw[hc] at e;cases e
   | true =>
     rw[hc] at e;cases e;refine⟨by rw[zH,zOS,hc];simp[SV.enc,zH,zQT,zQO],fun ho=>?_⟩;simp only[SV.ok];exact qMU ho fun z hz=>zRK (zRJ hz)
  ·cases e
 ·rename_i ha;rw[ha];simp only;rw[qW,e];exact⟨rfl,fun ho=>mW ho e⟩
 ·cases e
theorem qB2 {t':Ty}{xs:List t'.sem}{x:t'.sem}(hx:xs[j]?=some x)(e:qGW P t (t'.svs x) off=some v) :
 bC P t ((xs.flatMap t'.cells).map .f) (j*t'.w+off)=some v.enc∧qMJ P t (xs.flatMap t'.cells) (j*t'.w+off)=some v.enc∧v.ok h:=by
 have h0:=qHN (h:=h) e;refine⟨?_,?_,h0.2 (qDR t' x)⟩
 all_goals
  have h1:=h0.1;rw[gX] at h1;unfold bC at h1
 ·unfold bC;split at h1
  ·rename_i ha;split at h1
   ·rename_i n hn
    cases hc:Nat.ble (off+n) ((t'.cells x).map PV.f).length with
    | false=>rw[hc] at h1;cases h1
    | true =>
      rw[hc] at h1
      have hle:off+n<=t'.w:=by
       have:=zOQ hc;rw[zOS,t'.zE8] at this;exact this
      rw[show Nat.ble (j*t'.w+off+n) ((xs.flatMap t'.cells).map PV.f).length=true from zOV (by rw[zOS];exact qFT hx hle)];simp only[cond_true] at h1 ⊢;rw[<-h1,<-zQT,<-zQO,qKU hx hle,<-zQT,<-zQO]
   ·cases h1
  ·rename_i ha;rw[qF,zOX] at h1 ⊢
   have hlt:off < t'.w:=by
    rw[<-t'.zE8 x]
    cases hq:(t'.cells x)[off]? with
    | none=>rw[hq] at h1;cases h1
    | some y=>exact (zOO.1 hq).1
   rw[Go.Sv.flat_get hx hlt];exact h1
  ·cases h1
 ·unfold qMJ;split at h1
  ·rename_i ha;split at h1
   ·rename_i n hn
    cases hc:Nat.ble (off+n) ((t'.cells x).map PV.f).length with
    | false=>rw[hc] at h1;cases h1
    | true =>
      rw[hc] at h1
      have hle:off+n<=t'.w:=by
       have:=zOQ hc;rw[zOS,t'.zE8] at this;exact this
      rw[show Nat.ble (j*t'.w+off+n) (xs.flatMap t'.cells).length=true from zOV (qFT hx hle)];simp only[cond_true] at h1 ⊢;rw[<-h1,qKU hx hle,<-zQT,<-zQO]
   ·cases h1
  ·rename_i ha;rw[qF,zOX] at h1
   cases hq:(t'.cells x)[off]? with
   | none=>rw[hq] at h1;cases h1
   | some y =>
     rw[hq] at h1
     have hlt:off < t'.w:=by
      rw[<-t'.zE8 x];exact (zOO.1 hq).1
     rw[Go.Sv.flat_get hx hlt,hq];exact h1
  ·cases h1
def zB8:List SV->Option IntKind
 | v::_=>(asI v).map Prod.fst
 | []=>none
def qBM (ik:IntKind):List SV->Option (List Int)
 | []=>some []
 | v::l=>match q5F ik v,qBM ik l with
   | some x,some xs=>some (x::xs)
   | _,_=>none
def q3D (off:Nat)(v:Int)(xs:List Int):Option (List Int):=if off < xs.length then some (xs.set off v) else none
def spread (ik:IntKind)(n:Nat)(ys:List Int):List SV:=(List.range n).map fun i=>SV.d (.int ik) (ys.getD i 0:Int)
theorem wR {ik:IntKind}:∀ {l:List SV} {xs:List Int},qBM ik l=some xs->qB l=xs.map fun x=>fvv (.int ik x)
 | [],xs,e=>by cases e;simp[qB]
 | v::l,xs,e=>by
   unfold qBM at e;split at e
   ·rename_i x ys hx hy;cases e;simp only[qB,zOZ,oF hx,wR hy]
   ·cases e
theorem rU (h:ys.length=n):qB (spread ik n ys)=ys.map fun x=>fvv (.int ik x):=by
 rw[zH];unfold spread;rw[zQP];apply zP2;intro i;rw[zOX,zOX];by_cases hi:i < n
 ·rw[zSU hi,zOL (by omega:i < ys.length)];simp only[zOW,Function.comp,zOP];rw[zPH,zOL (by omega:i < ys.length)];simp[SV.enc,Ty.fv,fvv]
 ·rw[zPZ (by simp;omega),zPZ (by omega)];rfl
theorem qJZ:okL h (spread ik n ys):=zM.2 fun x hx=>by
 unfold spread at hx;obtain⟨i,_,rfl⟩:=zO6.1 hx;simp[SV.ok]
def zB7 (P:Program)(t:TypeId)(off w:Nat)(el:TypeId)(ik:IntKind)(xs:List Int)(K:SV->zEY R):zEY R:=cond (spec P el) .fail (match qOX P t,szT P t with
 | some false,_=>.ite (Nat.beq w (List.length xs)) (.bind (xs[off]?) fun x=>K (.d (.int ik) (x:Int))) .fail
 | some true,some n=>cond (Nat.beq off 0&&Nat.beq n w) (.ite (Nat.beq w (List.length xs)) (K (.agg (spread ik w xs))) .fail) .fail
 | _,_=>.fail)
theorem qWJ {k:Nat}{K:SV->zEY R}(hk:qA k (qD h.l)=some (SO.spc w' (.arr el ik xs)).enc)(e:(zB7 P t off w el ik xs K).run=some r):∃ v,fA P t (.ref k w off) (qD h.l)=some v.enc∧v.ok h∧(K v).run=some r:=by
 unfold zB7 at e
 cases hsp:spec P el with
 | true=>rw[hsp] at e;cases e
 | false =>
 rw[hsp] at e;simp only[cond_false] at e
 have pre:fA P t (.ref k w off) (qD h.l)=cond (Nat.beq w xs.length) (bC P t (xs.map fun x=>fvv (.int ik x)) off) none:=by
  simp only[fA,hk];show cond (spec P el) none (cond (Nat.beq w (xs.map fun x=>fvv (.int ik x)).length) _ none)=_;rw[hsp,zOS];rfl
 rw[pre];split at e
 ·rename_i ha
  rcases run_ite e with ⟨z,e1⟩ | ⟨_,e1⟩
  ·obtain⟨x,hx,e2⟩:=run_bind e1;refine⟨_,?_,by simp[SV.ok],e2⟩;rw[z];simp only[cond_true,bC,ha];rw[qF,zOX,hx];simp[SV.enc,Ty.fv,fvv]
  ·cases e1
 ·rename_i n ha hn;obtain⟨c,e0⟩:=qG e;rw[zOG] at c;have h0:=zOH c.1;have h1:=zOH c.2;subst h0 h1
  rcases run_ite e0 with ⟨z,e1⟩ | ⟨_,e1⟩
  ·refine⟨_,?_,by simp only[SV.ok];exact qJZ,e1⟩;have hl:=zOH z;rw[z];simp only[cond_true,bC,ha,hn];rw[show Nat.ble (0+n) (xs.map fun x=>fvv (.int ik x)).length=true from zOV (by rw[zOS];omega)];simp only[cond_true,zP1,SV.enc];rw[rU hl.symm,zO5 (by rw[zOS];omega)]
  ·cases e1
 ·cases e
def q42 (P:Program)(t:TypeId)(a:SV)(h:SH)(K:SV->zEY R):zEY R:=match a with
 | .ref k off w=>(match slk k h.l with
   | some (.cells el _ l)=>(match qGW P t l off with
     | some v=>cond (!(spec P el)&&Nat.beq w l.length) (K v) .fail
     | none=>.fail)
   | some (.spc _ (.arr el ik xs))=>zB7 P t off w el ik xs K
   | _=>.fail)
 | .elt k g n w j off=>(match slk k h.l with
   | some (.list _ _ g' _ t' xs)=>cond (Nat.beq g g'&&Nat.beq w t'.w) (.bind (xs[j]?) fun x=>match qGW P t (t'.svs x) off with
     | some v=>K v
     | none=>.fail) .fail
   | _=>.fail)
 | .lp t' xs j off=>.bind (xs[j]?) fun x=>match qGW P t (t'.svs x) off with
   | some v=>K v
   | none=>.fail
 | .rfx k off w=>(match slk k h.l with
   | some (.cells el _ l)=>(match zB8 l with
     | some ik=>(match qBM ik l,qOX P t with
       | some xs,some false=>cond (!(spec P el)&&Nat.beq w l.length) (.bind (xs[off]?) fun x=>K (.d (.int ik) (x:Int))) .fail
       | _,_=>.fail)
     | none=>.fail)
   | some (.spc _ (.arr el ik xs))=>zB7 P t off w el ik xs K
   | _=>.fail)
 | .etx k g n w j off=>(match slk k h.l with
   | some (.list _ _ g' _ t' xs)=>cond (Nat.beq g g'&&Nat.beq w t'.w) (.bind (xs[j]?) fun x=>match zB8 (t'.svs x) with
     | some ik=>(match qBM ik (t'.svs x),qOX P t with
       | some ys,some false=>.bind (ys[off]?) fun z=>K (.d (.int ik) (z:Int))
       | _,_=>.fail)
     | none=>.fail) .fail
   | _=>.fail)
 | _=>.fail
theorem qQ (l:List SV):(qB l).length=l.length:=by rw[zH,zOS]
theorem zP {k:Nat}{ob:SO}{l:List (Nat×SO)}(e:slk k l=some ob):qA k (qD l)=some ob.enc:=by rw[vC,e];rfl
theorem qV {gr:Bool}{g:Nat}{t:Ty}{xs:List t.sem}:(SO.list el gr g w t xs).enc.cs.length=xs.length*t.w:=by
 show ((xs.flatMap t.cells).map PV.f).length=_;rw[zOS,zW]
theorem q2C {a:SV}{K:SV->zEY R}(ho:OkH P h)(ha:a.ok h)(e:(q42 P t a h K).run=some r):∃ v,fA P t a.enc (qD h.l)=some v.enc∧v.ok h∧(K v).run=some r:=by
 unfold q42 at e;split at e
 ·rename_i k off w;split at e
  ·rename_i el w' l hk;split at e
   ·rename_i v hv;obtain⟨h1,h2⟩:=qG e;rw[zOG,zO3] at h1;obtain⟨hsp,h1⟩:=h1;obtain⟨h3,h4⟩:=qHN (h:=h) hv;refine⟨v,?_,h4 (ho.cells _ _ _ _ hk),h2⟩;simp only[SV.enc,fA,zP hk];show cond (spec P el) none (cond (Nat.beq w (qB l).length) (bC P t (qB l) off) none)=_;rw[qQ,h1,hsp];exact h3
   ·cases e
  ·rename_i w' el ik xs hk;obtain⟨v,h1,h2,h3⟩:=qWJ (zP hk) e;exact⟨v,by simp only[SV.enc];exact h1,h2,h3⟩
  ·cases e
 ·rename_i k g n w j off;split at e
  ·rename_i el gr g' w' t' xs hk;obtain⟨h1,h2⟩:=qG e;rw[zOG] at h1;have hg:g=g':=zOH h1.1;have hw:w=t'.w:=zOH h1.2;subst hg hw;obtain⟨x,hx,h3⟩:=run_bind h2;split at h3
   ·rename_i v hv;have h5:=qB2 (h:=h) hx hv;refine⟨v,?_,h5.2.2,h3⟩;simp only[SV.ok] at ha;have hn:n=xs.length:=ha.2 _ _ _ _ _ hk;simp only[SV.enc,fA,zP hk];rw[qV,hn,show spec P (SO.list el gr g w' t' xs).enc.el=false from xX (ho.list _ _ _ _ _ _ _ hk).2.1];simp only[aC,cond_true,cond_false];exact h5.1
   ·cases h3
  ·cases e
 ·rename_i t' xs j off;obtain⟨x,hx,h3⟩:=run_bind e;split at h3
  ·rename_i v hv;have h5:=qB2 (h:=h) hx hv;exact⟨v,by simp only[SV.enc,fA];exact h5.2.1,h5.2.2,h3⟩
  ·cases h3
 ·rename_i k off w;split at e
  ·rename_i el w' l hk;split at e
   ·rename_i ik hik;split at e
    ·rename_i xs hxs hag;obtain⟨h1,h2⟩:=qG e;rw[zOG,zO3] at h1;obtain⟨hsp,h1⟩:=h1;obtain⟨x,hx,h3⟩:=run_bind h2;refine⟨_,?_,by simp[SV.ok],h3⟩;simp only[SV.enc,fA,zP hk];show cond (spec P el) none (cond (Nat.beq w (qB l).length) (bC P t (qB l) off) none)=_;rw[qQ,h1,hsp];simp only[cond_true,cond_false];unfold bC;rw[hag];show zL (qB l) off=_;rw[qF,wR hxs,zOX,hx];simp[Ty.fv,fvv]
    ·cases e
   ·cases e
  ·rename_i w' el ik xs hk;obtain⟨v,h1,h2,h3⟩:=qWJ (zP hk) e;exact⟨v,by simp only[SV.enc];exact h1,h2,h3⟩
  ·cases e
 ·rename_i k g n w j off;split at e
  ·rename_i el gr g' w' t' xs hk;obtain⟨h1,h2⟩:=qG e;rw[zOG] at h1;have hg:g=g':=zOH h1.1;have hw:w=t'.w:=zOH h1.2;subst hg hw;obtain⟨x,hx,h3⟩:=run_bind h2;split at h3
   ·rename_i ik hik;split at h3
    ·rename_i ys hys hag;obtain⟨z,hz,h4⟩:=run_bind h3;refine⟨_,?_,by simp[SV.ok],h4⟩;have hn1:zL (qB (t'.svs x)) off=some (fvv (.int ik z)):=by rw[qF,wR hys,zOX,hz];rfl
     rw[qW] at hn1;obtain⟨v0,hv0,hv1⟩:=zOR.1 hn1;have hsp:qGW P t (t'.svs x) off=some v0:=by unfold qGW;rw[hag];exact hv0
     have h5:=qB2 (h:=h) hx hsp;simp only[SV.ok] at ha;have hn:n=xs.length:=ha.2 _ _ _ _ _ hk;simp only[SV.enc,fA,zP hk];rw[qV,hn,show spec P (SO.list el gr g w' t' xs).enc.el=false from xX (ho.list _ _ _ _ _ _ _ hk).2.1];simp only[aC,cond_true,cond_false];have h6:=h5.1;rw[hv1] at h6;rw[show (SO.list el gr g w' t' xs).enc.cs=(xs.flatMap t'.cells).map .f from rfl,h6];simp[Ty.fv,fvv]
    ·cases h3
   ·cases h3
  ·cases e
 ·cases e
def Post (P:Program)(h h':SH)(v:SV):Prop:=Keep h h'∧OkH P h'∧v.ok h'
def yQ:SV->List SV
 | .agg l=>l
 | v=>[v]
theorem bV (v:SV):zG v.enc=qB (yQ v):=by
 cases v <;> simp[SV.enc,zG,yQ,qB,fvv];rename_i b _ _ _;cases b <;> rfl
omit [Yl] in
theorem qCL (hv:v.ok h):okL h (yQ v):=by
 cases v <;> simp only[yQ,okL,SV.ok,and_true] at hv ⊢ <;> exact hv
def qAR (l:List SV)(i:Nat)(vs:List SV):List SV:=l.take i++vs++l.drop (i+vs.length)
theorem qCB (l vs:List SV)(i:Nat):qB (qAR l i vs)=yI (qB l) i (qB vs):=by
 simp[qAR,yI,zH,zQO,zQT]
omit [Yl] in
theorem qOD {vs:List SV}{i:Nat}(a:okL h l)(b:okL h vs):okL h (qAR l i vs) :=
 gZ (gZ (qMU a fun z hz=>zRJ hz) b) (qMU a fun z hz=>zRK hz)
omit [Yl] in
theorem qZJ {α:Type}(A B C:List α)(c:List α)(hle:off+c.length<=B.length) :
 (A++B++C).take (A.length+off)++c++(A++B++C).drop (A.length+off+c.length)=A++(B.take off++c++B.drop (off+c.length))++C:=by
 rw[zPE A B C,List.take_append,zO5 (by omega),zSB,List.take_append_of_le_length (by omega)];rw[zQG,List.drop_append,zSE (by omega),zSB,zRS,List.drop_append_of_le_length (by omega)];simp[zPE]
omit [Yl] in
theorem qD6 {t:Ty}{xs:List t.sem}{x:t.sem}(hx:xs[j]?=some x)(y:t.sem):(xs.set j y).flatMap t.cells=(xs.take j).flatMap t.cells++t.cells y++(xs.drop (j+1)).flatMap t.cells:=by
 have hl:=(zOO.1 hx).1;rw[zQR,if_pos hl,zRM,zO8,zPE]
omit [Yl] in
theorem qEE {t:Ty}{xs:List t.sem}{x y:t.sem}(hx:xs[j]?=some x){c:List PV}(hle:off+c.length<=t.w)(hy:yI ((t.cells x).map .f) off c=(t.cells y).map .f) :
 yI ((xs.flatMap t.cells).map .f) (j*t.w+off) c=((xs.set j y).flatMap t.cells).map .f:=by
 have hl:=(zOO.1 hx).1
 have e0:xs.set j x=xs:=by
  apply zP2;intro i;rw[zPA];by_cases e:j=i
  ·subst e;rw[if_pos rfl,if_pos hl,hx]
  ·rw[if_neg e]
 have e1:=qD6 hx x;rw[e0] at e1;rw[qD6 hx y,e1];simp only[zPS];unfold yI;have hA:(((xs.take j).flatMap t.cells).map PV.f).length=j*t.w:=by rw[zOS,zW,zPQ,zP7 (by omega)]
 rw[<-hA,qZJ _ _ _ _ (by rw[zOS,t.zE8];exact hle)];unfold yI at hy;rw[hy]
def zBY (P:Program)(n off w:Nat)(el:TypeId)(ik:IntKind)(xs:List Int)(k:Nat)(x:SV)(h:SH)(K:SV->SH->zEY R):zEY R:=cond (spec P el) .fail (match x with
 | .agg l=>(match qBM ik l with
   | some ys=>cond (Nat.beq off 0&&(Nat.beq n w&&Nat.beq n (List.length l))) (.ite (Nat.beq w (List.length xs)) (K (.tup []) (h.put k fun u=>.spc u (.arr el ik ys))) .fail) .fail
   | none=>.fail)
 | x=>(match q5F ik x with
   | some v=>cond (Nat.beq n 1) (.ite (Nat.beq w (List.length xs)) (.bind (q3D off v xs) fun ys=>K (.tup []) (h.put k fun u=>.spc u (.arr el ik ys))) .fail) .fail
   | none=>.fail))
theorem qKR {ik:IntKind}:∀ {l:List SV} {xs:List Int},qBM ik l=some xs->xs.length=l.length
 | [],xs,e=>by cases e;rfl
 | v::l,xs,e=>by
   unfold qBM at e;split at e
   ·rename_i x ys hx hy;cases e;simp[qKR hy]
   ·cases e
theorem qUI {k:Nat}{K:SV->SH->zEY R}(ho:OkH P h)(hn:szT P t=some n)(hk:slk k h.l=some (.spc w' (.arr el ik xs)))(e:(zBY P n off w el ik xs k x h K).run=some r) :
 ∃ h',jG P t (.ref k w off) x.enc (qD h.l)=some (qD h'.l)∧Keep h h'∧OkH P h'∧(K (.tup []) h').run=some r:=by
 unfold zBY at e
 cases hsp:spec P el with
 | true=>rw[hsp] at e;cases e
 | false =>
 rw[hsp] at e;simp only[cond_false] at e;have hp:∀ ys:List Int,Keep h (h.put k fun u=>.spc u (.arr el ik ys))∧OkH P (h.put k fun u=>.spc u (.arr el ik ys)):=fun ys=>vO (f:=fun u=>.spc u (.arr el ik ys)) ho hk rfl
 have pre:jG P t (.ref k w off) x.enc (qD h.l)=cond (Nat.beq w xs.length&&(Nat.beq n (zG x.enc).length&&(Nat.ble (off+n) xs.length&&(pnt x.enc&&(zG x.enc).all fU)))) (some (xW k ⟨el,false,yI (xs.map fun x=>fvv (.int ik x)) off (zG x.enc)⟩ (qD h.l))) none:=by
  simp only[jG,zP hk,hn];show cond (spec P el) none (cond (Nat.beq w (xs.map fun x=>fvv (.int ik x)).length&&(Nat.beq n (zG x.enc).length&&(Nat.ble (off+n) (xs.map fun x=>fvv (.int ik x)).length&&(pnt x.enc&&(zG x.enc).all fU)))) _ none)=_;rw[hsp,zOS];rfl
 have fin:∀ ys:List Int,qD (h.put k fun u=>.spc u (.arr el ik ys)).l=xW k ⟨el,false,ys.map fun x=>fvv (.int ik x)⟩ (qD h.l):=fun ys=>xQ k _ _
 split at e
 ·rename_i l;split at e
  ·rename_i ys hys;obtain⟨c,e0⟩:=qG e;simp only[zOG] at c;have h0:=zOH c.1;have h1:=zOH c.2.1;have h2:=zOH c.2.2;subst h0
   rcases run_ite e0 with ⟨z,e1⟩ | ⟨_,e1⟩
   ·have hl:=zOH z;refine⟨_,?_,(hp ys).1,(hp ys).2,e1⟩;rw[pre,fin ys];have hle:=qKR hys;simp only[SV.enc,zG,wR hys,zOS];rw[z,show Nat.beq n ys.length=true by rw[hle,<-h2];exact aC _,show Nat.ble (0+n) xs.length=true from zOV (by omega),show ((ys.map fun x=>fvv (.int ik x)).all fU)=true by simp[zOJ,fvv,fU]];simp only[pnt,zPG,cond_true];unfold yI;rw[List.take_zero,zSE (by simp only[zOS];omega)];simp
   ·cases e1
  ·cases e
 ·split at e
  ·rename_i v hv;obtain⟨c,e0⟩:=qG e;have h1:=zOH c;subst h1
   rcases run_ite e0 with ⟨z,e1⟩ | ⟨_,e1⟩
   ·obtain⟨ys,hys,e2⟩:=run_bind e1;unfold q3D at hys;split at hys
    case isFalse=>cases hys
    rename_i hlt;cases hys;refine⟨_,?_,(hp _).1,(hp _).2,e2⟩;rw[pre,fin,oF hv];rw[show Nat.ble (off+1) xs.length=true from zOV hlt,z];show some (xW k ⟨el,false,yI (xs.map fun x=>fvv (.int ik x)) off [fvv (.int ik v)]⟩ (qD h.l))=_
    have:yI (xs.map fun x=>fvv (.int ik x)) off [fvv (.int ik v)]=(xs.set off v).map fun x=>fvv (.int ik x):=by
     rw[List.map_set,zQR,if_pos (by rw[zOS];exact hlt)];unfold yI;simp
    rw[this]
   ·cases e1
  ·cases e
def qYI (P:Program)(t:TypeId)(a x:SV)(h:SH)(K:SV->SH->zEY R):zEY R:=match szT P t with
 | some n=>(match a with
   | .ref k off w=>(match slk k h.l with
     | some (.cells el _ l)=>cond (!(spec P el)&&(Nat.beq w l.length&&(Nat.beq n (yQ x).length&&(Nat.ble (off+n) l.length&&(pnt x.enc&&(qB (yQ x)).all fU)))))
        (K (.tup []) (h.put k fun v=>.cells el v (qAR l off (yQ x)))) .fail
     | some (.spc _ (.arr el ik xs))=>zBY P n off w el ik xs k x h K
     | _=>.fail)
   | .elt k g m w j off=>(match slk k h.l with
     | some (.list el gr g' _ t' xs)=>cond (Nat.beq g g'&&(Nat.beq w t'.w&&(Nat.beq n (yQ x).length&&(Nat.ble (off+n) w&&(pnt x.enc&&(qB (yQ x)).all fU)))))
        (.bind (xs[j]?) fun y=>match t'.zHN (qAR (t'.svs y) off (yQ x)) with
          | some z=>K (.tup []) (h.put k fun v=>.list el gr g v t' (List.set xs j z))
          | none=>.fail) .fail
     | _=>.fail)
   | .rfx k off w=>(match slk k h.l with
     | some (.cells el _ l)=>(match zB8 l with
       | some ik=>(match qBM ik l,q5F ik x with
         | some xs,some v=>cond (!(spec P el)&&(Nat.beq w l.length&&Nat.beq n 1)) (.bind (q3D off v xs) fun ys=>K (.tup []) (h.put k fun u=>.cells el u (spread ik (List.length xs) ys))) .fail
         | _,_=>.fail)
       | none=>.fail)
     | some (.spc _ (.arr el ik xs))=>zBY P n off w el ik xs k x h K
     | _=>.fail)
   | .etx k g m w j off=>(match slk k h.l with
     | some (.list el gr g' _ t' xs)=>cond (Nat.beq g g'&&(Nat.beq w t'.w&&Nat.beq n 1)) (.bind (xs[j]?) fun y=>match zB8 (t'.svs y) with
       | some ik=>(match qBM ik (t'.svs y),q5F ik x with
         | some ys,some v=>.bind (q3D off v ys) fun zs=>match t'.zHN (spread ik (List.length ys) zs) with
           | some z=>K (.tup []) (h.put k fun v=>.list el gr g v t' (List.set xs j z))
           | none=>.fail
         | _,_=>.fail)
       | none=>.fail) .fail
     | _=>.fail)
   | _=>.fail)
 | none=>.fail
theorem qTM {a:SV}{K:SV->SH->zEY R}(ho:OkH P h)(ha:a.ok h)(hx:x.ok h)(e:(qYI P t a x h K).run=some r) :
 ∃ h',jG P t a.enc x.enc (qD h.l)=some (qD h'.l)∧Keep h h'∧OkH P h'∧(K (.tup []) h').run=some r:=by
 unfold qYI at e;split at e
 ·rename_i n hn;split at e
  ·rename_i k off w;split at e
   ·rename_i el w' l hk;obtain⟨h1,h2⟩:=qG e;rw[zOG,zO3] at h1;obtain⟨hsp,h1⟩:=h1;have hp:=vO (f:=fun v=>.cells el v (qAR l off (yQ x))) ho hk ⟨rfl,qOD (ho.cells _ _ _ _ hk) (qCL hx)⟩;refine⟨_,?_,hp.1,hp.2,h2⟩;simp only[SV.enc,jG,zP hk,hn];show cond (spec P el) none (cond (Nat.beq w (qB l).length&&(Nat.beq n (zG x.enc).length&&(Nat.ble (off+n) (qB l).length&&(pnt x.enc&&(zG x.enc).all fU)))) _ _)=_;rw[bV,qQ,qQ,h1,hsp];simp only[cond_true];rw[show qD (h.put k fun v=>.cells el v (qAR l off (yQ x))).l=xW k (SO.enc (.cells el h.next (qAR l off (yQ x)))) (qD h.l) from xQ k _ _];show some (xW k ⟨el,false,yI (qB l) off (qB (yQ x))⟩ (qD h.l))=some (xW k ⟨el,false,qB (qAR l off (yQ x))⟩ (qD h.l));rw[qCB]
   ·rename_i w' el ik xs hk;obtain⟨h',h1,h2,h3,h4⟩:=qUI (t:=t) ho hn hk e;exact⟨h',by simp only[SV.enc];exact h1,h2,h3,h4⟩
   ·cases e
  ·rename_i k g m w j off;split at e
   ·rename_i el gr g' w' t' xs hk;obtain⟨h1,h2⟩:=qG e;simp only[zOG] at h1;obtain⟨q1,q2,q3,q4,q5,q6⟩:=h1;have hg:g=g':=zOH q1;have hw:w=t'.w:=zOH q2;subst hg hw;obtain⟨y,hy,h3⟩:=run_bind h2;split at h3
    ·rename_i z hz;have hp:=vO (f:=fun v=>.list el gr g v t' (List.set xs j z)) ho hk ⟨_,rfl,by simp⟩;refine⟨_,?_,hp.1,hp.2,h3⟩;simp only[SV.ok] at ha;have hm:m=xs.length:=ha.2 _ _ _ _ _ hk;have hle:off+n<=t'.w:=zOQ q4;simp only[SV.enc,jG,zP hk,hn];rw[qV,hm,bV,qQ,show spec P (SO.list el gr g w' t' xs).enc.el=false from xX (ho.list _ _ _ _ _ _ _ hk).2.1]
     have hjl:j*t'.w+off+n<=xs.length*t'.w:=by
      have:=qFT hy hle
      rwa [zW] at this
     rw[q3,q5,q6,show Nat.ble (j*t'.w+off+n) (xs.length*t'.w)=true from zOV hjl];simp only[aC,zPG,cond_true,cond_false];rw[show qD (h.put k fun v=>.list el gr g v t' (List.set xs j z)).l=xW k (SO.enc (.list el gr g h.next t' (List.set xs j z))) (qD h.l) from xQ k _ _];show some (xW k ⟨el,gr,yI ((xs.flatMap t'.cells).map .f) (j*t'.w+off) (qB (yQ x))⟩ (qD h.l))=some (xW k ⟨el,gr,((List.set xs j z).flatMap t'.cells).map .f⟩ (qD h.l));have hnl:n=(qB (yQ x)).length:=by rw[qQ];exact zOH q3
     rw[qEE hy (y:=z) (by rw[<-hnl];exact hle) (by rw[<-gX,<-qCB];exact nD hz)]
    ·cases h3
   ·cases e
  ·rename_i k off w;split at e
   ·rename_i el w' l hk;split at e
    ·rename_i ik hik;split at e
     ·rename_i xs v hxs hv;obtain⟨h1,h2⟩:=qG e;simp only[zOG,zO3] at h1;obtain⟨hsp,hw,hn1⟩:=h1;have hn2:=zOH hn1;subst hn2;obtain⟨ys,hys,h3⟩:=run_bind h2;unfold q3D at hys;split at hys
      case isFalse=>cases hys
      rename_i hlt;cases hys;have hp:=vO (f:=fun u=>.cells el u (spread ik (List.length xs) (xs.set off v))) ho hk ⟨rfl,qJZ⟩;refine⟨_,?_,hp.1,hp.2,h3⟩;have hel:=wR hxs;have hll:(qB l).length=xs.length:=by rw[hel,zOS]
      simp only[SV.enc,jG,zP hk,hn];rw[oF hv];show cond (spec P el) none (cond (Nat.beq w (qB l).length&&(Nat.beq 1 1&&(Nat.ble (off+1) (qB l).length&&(true&&true)))) (some (xW k ⟨el,false,yI (qB l) off [fvv (.int ik v)]⟩ (qD h.l))) none)=_;rw[hsp,show Nat.beq w (qB l).length=true by rw[qQ];exact hw,hll,show Nat.ble (off+1) xs.length=true from zOV hlt];rw[show qD (h.put k fun u=>.cells el u (spread ik (List.length xs) (xs.set off v))).l=xW k (SO.enc (.cells el h.next (spread ik (List.length xs) (xs.set off v)))) (qD h.l) from xQ k _ _];show some (xW k ⟨el,false,yI (qB l) off [fvv (.int ik v)]⟩ (qD h.l))=some (xW k ⟨el,false,qB (spread ik (List.length xs) (xs.set off v))⟩ (qD h.l));rw[rU (by simp),hel]
      have:yI (xs.map fun x=>fvv (.int ik x)) off [fvv (.int ik v)]=(xs.set off v).map fun x=>fvv (.int ik x):=by
       rw[List.map_set,zQR,if_pos (by rw[zOS];exact hlt)];unfold yI;simp
      rw[this]
     ·cases e
    ·cases e
   ·rename_i w' el ik xs hk;obtain⟨h',h1,h2,h3,h4⟩:=qUI (t:=t) ho hn hk e;exact⟨h',by simp only[SV.enc];exact h1,h2,h3,h4⟩
   ·cases e
  ·rename_i k g m w j off;split at e
   ·rename_i el gr g' w' t' xs hk;obtain⟨h1,h2⟩:=qG e;simp only[zOG] at h1;obtain⟨q1,q2,q3⟩:=h1;have hg:g=g':=zOH q1;have hw:w=t'.w:=zOH q2;have hn2:=zOH q3;subst hg hw hn2;obtain⟨y,hy,h3⟩:=run_bind h2;split at h3
    ·rename_i ik hik;split at h3
     ·rename_i ys v hys hv;obtain⟨zs,hzs,h4⟩:=run_bind h3;split at h4
      ·rename_i z hz;unfold q3D at hzs;split at hzs
       case isFalse=>cases hzs
       rename_i hlt;cases hzs;have hp:=vO (f:=fun v=>.list el gr g v t' (List.set xs j z)) ho hk ⟨_,rfl,by simp⟩;refine⟨_,?_,hp.1,hp.2,h4⟩;simp only[SV.ok] at ha;have hm:m=xs.length:=ha.2 _ _ _ _ _ hk;have hel:=wR hys
       have hcw:ys.length=t'.w:=by
        have:=congrArg List.length hel;rw[gX,zOS,zOS,t'.zE8] at this;exact this.symm
       have hle:off+1<=t'.w:=by omega
       simp only[SV.enc,jG,zP hk,hn];rw[qV,hm,oF hv,show spec P (SO.list el gr g w' t' xs).enc.el=false from xX (ho.list _ _ _ _ _ _ _ hk).2.1]
       have hjl:j*t'.w+off+1<=xs.length*t'.w:=by
        have:=qFT hy hle
        rwa [zW] at this
       rw[show Nat.ble (j*t'.w+off+1) (xs.length*t'.w)=true from zOV hjl];simp only[aC,cond_false];show some (xW k ⟨el,gr,yI ((xs.flatMap t'.cells).map .f) (j*t'.w+off) [fvv (.int ik v)]⟩ (qD h.l))=_;rw[show qD (h.put k fun v=>.list el gr g v t' (List.set xs j z)).l=xW k (SO.enc (.list el gr g h.next t' (List.set xs j z))) (qD h.l) from xQ k _ _];show _=some (xW k ⟨el,gr,((List.set xs j z).flatMap t'.cells).map .f⟩ (qD h.l));rw[qEE hy (y:=z) hle ?_];rw[<-nD hz,rU (by simp),<-gX,hel,List.map_set,zQR,if_pos (by rw[zOS];exact hlt)];unfold yI;simp
      ·cases h4
     ·cases h3
    ·cases h3
   ·cases e
  ·cases e
 ·cases e
end
end Go.Sv
namespace Go.Sv
open Go.Idl
noncomputable section
variable [Gc]
variable [Yl]
variable {P:Program}{h:SH}{R:Type}{r:R}
def tyL:List (Option Ty)->Option Ty
 | []=>some .unit
 | [t]=>t.map fun t=>.pair t .unit
 | [a,b]=>match a,b with
   | some a,some b=>some (.pair a b)
   | _,_=>none
 | a::l=>match a,tyL l with
   | some a,some b=>some (.pair a b)
   | _,_=>none
def zED (P:Program)(t:TypeId):Option Ty:=match P.underlying t with
 | some (.slice el)=>(match P.underlying el with
   | some (.int k)=>some (.ol el k)
   | _=>none)
 | _=>none
def qD3 (P:Program):Nat->TypeId->Option Ty
 | 0,_=>none
 | n+1,t=>match P.underlying t with
   | some (.int k)=>some (.int k)
   | some .bool=>some .bool
   | some .string=>some .str
   | some (.slice el)=>(match qD3 P n el with
     | some u=>some (.list el u)
     | none=>none)
   | some (.struct fields)=>tyL (fields.toList.map fun f=>cond (Gc.ol f.type) (zED P f.type) (qD3 P n f.type))
   | some (.array k el)=>tyL (List.replicate k (qD3 P n el))
   | some (.interface ..)=>some .nif
   | _=>none
def zcS (P:Program)(t:TypeId):Option (List SV):=match qAU P t with
 | some z=>cond (jZ okC z.cells.toList) (some (kS .c z.cells.toList)) none
 | none=>none
theorem eZ {t:TypeId}{l:List SV}(e:zcS P t=some l):zc P t=some (qB l)∧okL h l:=by
 unfold zcS at e;unfold zc;split at e
 ·rename_i z hz
  cases hc:jZ okC z.cells.toList with
  | false=>rw[hc] at e;cases e
  | true =>
    rw[hc] at e;cases e;rw[hz];simp only[hc,cond_true];exact⟨by rw[zB3],zBT _⟩
 ·cases e
def zCM (P:Program)(el:TypeId)(l:List SV):Option (Nat×IntKind×List Int):=match qPP P el with
 | some (m,e2)=>(match qD3 P 8 e2 with
   | some (.int ik)=>(match qBM ik l with
     | some xs=>cond (Nat.beq l.length m) (some (m,ik,xs)) none
     | none=>none)
   | _=>none)
 | none=>none
theorem qQ2 {el:TypeId}{l:List SV}{p:Nat×IntKind×List Int}(e:zCM P el l=some p):qB l=(p.2.2.map fun x=>fvv (.int p.2.1 x))∧l.length=p.1:=by
 unfold zCM at e;split at e
 ·split at e
  ·split at e
   ·rename_i xs hx;obtain⟨hc,e⟩:=nQ e;cases e;exact⟨wR hx,zOH hc⟩
   ·cases e
  ·cases e
 ·cases e
def qUC (P:Program)(el:TypeId)(k:Nat)(h:SH)(K:SV->SH->zEY R):zEY R:=match zcS P el with
 | some l=>cond (spec P el) .fail (match zCM P el l with
   | some p=>K (.ref k 0 p.1) (h.new k fun v=>.spc v (.arr el p.2.1 p.2.2))
   | none=>K (.ref k 0 l.length) (h.new k fun v=>.cells el v l))
 | none=>.fail
theorem qVO {el:TypeId}{k:Nat}{K:SV->SH->zEY R}(ho:OkH P h)(e:(qUC P el k h K).run=some r):∃ v h',eD P el k (qD h.l)=some (v.enc,qD h'.l)∧Post P h h' v∧(K v h').run=some r:=by
 unfold qUC at e;split at e
 ·rename_i l hl;obtain⟨h1,h2⟩:=eZ (h:=h) hl;have hp:=xI (k:=k) (f:=fun v=>.cells el v l) ho ⟨rfl,h2⟩
  cases hsp:spec P el with
  | true=>rw[hsp] at e;cases e
  | false =>
  rw[hsp] at e;simp only[cond_false] at e;split at e
  ·rename_i p hpa;have hp:=xI (k:=k) (f:=fun v=>.spc v (.arr el p.2.1 p.2.2)) ho rfl;refine⟨_,_,?_,⟨hp.1,hp.2,by simp[SV.ok]⟩,e⟩;simp only[eD,h1,qDG,SV.enc,qQ,hsp,cond_false];rw[<- (qQ2 hpa).2,(qQ2 hpa).1];rfl
  ·refine⟨_,_,?_,⟨hp.1,hp.2,by simp[SV.ok]⟩,e⟩;simp only[eD,h1,qDG,SV.enc,qQ,hsp,cond_false];rfl
 ·cases e
def zD3 (P:Program)(el:TypeId)(v:SV)(k:Nat)(h:SH)(K:SV->SH->zEY R):zEY R :=
 cond (!(spec P el)&&(pnt v.enc&&(qB (yQ v)).all fU)) (K (.ref k 0 (yQ v).length) (h.new k fun n=>.cells el n (yQ v))) .fail
theorem q6A {el:TypeId}{v:SV}{k:Nat}{K:SV->SH->zEY R}(ho:OkH P h)(hv:v.ok h)(e:(zD3 P el v k h K).run=some r):∃ x h',q1A P el v.enc k (qD h.l)=some (x.enc,qD h'.l)∧Post P h h' x∧(K x h').run=some r:=by
 obtain⟨h1,h2⟩:=qG e;have hp:=xI (k:=k) (f:=fun n=>.cells el n (yQ v)) ho ⟨rfl,qCL hv⟩;refine⟨_,_,?_,⟨hp.1,hp.2,by simp[SV.ok]⟩,h2⟩;unfold q1A;rw[bV,h1];simp only[cond_true,qDG,SV.enc,qQ];rfl
def qR4 (place:Nat->Option (Nat×Nat)):List SV->List (Nat×SV)->Option (List SV)
 | cells,[]=>some cells
 | cells,(i,v)::rest=>match place i with
   | some (off,size)=>cond (Nat.beq (yQ v).length size&&(Nat.ble (off+size) cells.length&&(pnt v.enc&&(qB (yQ v)).all fU))) (qR4 place (qAR cells off (yQ v)) rest) none
   | none=>none
def q8D (l:List (Nat×SV)):List (Nat×PV):=l.map fun p=>(p.1,p.2.enc)
theorem pE {place:Nat->Option (Nat×Nat)}:∀ {l cs:List SV} {parts:List (Nat×SV)},qR4 place l parts=some cs->qKV place (qB l) (q8D parts)=some (qB cs)∧(okL h l->(∀ p∈parts,p.2.ok h)->okL h cs)
 | l,cs,[],e=>by cases e;exact⟨rfl,fun a _=>a⟩
 | l,cs,(i,v)::rest,e=>by
   unfold qR4 at e;split at e
   ·rename_i off size hpl
    cases hc:(Nat.beq (yQ v).length size&&(Nat.ble (off+size) l.length&&(pnt v.enc&&(qB (yQ v)).all fU))) with
    | false=>rw[hc] at e;cases e
    | true =>
      rw[hc] at e;obtain⟨h1,h2⟩:=pE (l:=qAR l off (yQ v)) e;refine⟨?_,fun a b=>h2 (qOD a (qCL (b _ zON))) fun p hp=>b p (zOK _ hp)⟩
      show (match place i with
       | some (off,size)=>cond (Nat.beq (zG v.enc).length size&&(Nat.ble (off+size) (qB l).length&&(pnt v.enc&&(zG v.enc).all fU))) (qKV place (yI (qB l) off (zG v.enc)) (q8D rest)) none
       | none=>none)=some (qB cs)
      rw[hpl];simp only;rw[bV,qQ,qQ,hc,<-qCB];exact h1
   ·cases e
def qVS (P:Program)(t:TypeId)(parts:List (Nat×SV)):Option SV:=match zcS P t with
 | some z=>cond (qBV P t) (match qR4 (qUL P t) z parts with
   | some cs=>some (.agg cs)
   | none=>none) none
 | none=>none
theorem qWH {t:TypeId}{parts:List (Nat×SV)}{v:SV}(hp:∀ p∈parts,p.2.ok h)(e:qVS P t parts=some v):qLB P t (q8D parts)=some v.enc∧v.ok h:=by
 unfold qVS at e;split at e
 ·rename_i z hz;obtain⟨h1,h2⟩:=eZ (h:=h) hz
  cases hb:qBV P t with
  | false=>rw[hb] at e;cases e
  | true =>
    rw[hb] at e;simp only[cond_true] at e;split at e
    ·rename_i cs hcs;cases e;obtain⟨h3,h4⟩:=pE (h:=h) hcs;simp only[qLB,h1,hb,cond_true,h3,SV.enc,SV.ok,true_and];exact h4 h2 hp
    ·cases e
 ·cases e
def Ty.zJE (t:Ty):Nat->List SV->Option (List t.sem)
 | 0,[]=>some []
 | 0,_::_=>none
 | n+1,l=>match t.zHZ l with
   | some (x,l')=>(match t.zJE n l' with
     | some xs=>some (x::xs)
     | none=>none)
   | none=>none
theorem qN8 {t:Ty}:∀ {n:Nat} {l:List SV} {xs:List t.sem},t.zJE n l=some xs->qB l=(xs.flatMap t.cells).map .f∧xs.length=n
 | 0,[],xs,e=>by cases e;simp[qB]
 | 0,_::_,xs,e=>by cases e
 | n+1,l,xs,e=>by
   unfold Ty.zJE at e;split at e
   ·rename_i x l' hx;split at e
    ·rename_i ys hy;cases e;obtain⟨h1,h2⟩:=qN8 hy;rw[tT hx,h1,zO8,zPS];exact⟨rfl,by rw[zO4,h2]⟩
    ·cases e
   ·cases e
def qSV (n:Nat)(z:List SV):List SV:=(List.replicate n z).flatten
theorem tN (n:Nat)(z:List SV):qB (qSV n z)=qHW n (qB z):=by simp[qSV,qHW,zH,List.map_flatten]
def eX (P:Program)(t:TypeId)(len:Nat)(parts:List (Nat×SV))(k:Nat)(h:SH)(K:SV->SH->zEY R):zEY R:=match zS P t with
 | some el=>(match szT P el,zcS P el,qD3 P 8 el with
   | some (s+1),some z,some ty=>cond (Nat.beq ty.w (s+1)) (cond (Nat.beq z.length (s+1)&&Nat.ble (len*(s+1)) 65536) (match qR4 (fun i=>some (i*(s+1),s+1)) (qSV len z) parts with
     | some cs=>(match ty.zJE len cs with
       | some xs=>K (.own k h.next len) (h.new k fun v=>.list el false v v ty xs)
       | none=>K (.own k h.next len) (h.new k fun v=>.cells el v cs))
     | none=>.fail) .fail) .fail
   | some (s+1),some z,none=>cond (Nat.beq z.length (s+1)&&Nat.ble (len*(s+1)) 65536) (match qR4 (fun i=>some (i*(s+1),s+1)) (qSV len z) parts with
     | some cs=>K (.own k h.next len) (h.new k fun v=>.cells el v cs)
     | none=>.fail) .fail
   | _,_,_=>.fail)
 | none=>.fail
omit [Yl] in
theorem wF {el:TypeId}{gr:Bool}{k n:Nat}{ty:Ty}{xs:List ty.sem}(hn:n=xs.length):(SV.own k h.next n).ok (h.new k fun v=>.list el gr v v ty xs):=by
 simp only[SV.ok];refine⟨zPB _,fun el' gr' w' t' xs' hk=>?_⟩;rw[show slk k (h.new k fun v=>.list el gr v v ty xs).l=some (.list el gr h.next h.next ty xs) from kZ] at hk;cases hk;exact hn
theorem qDA {t:TypeId}{len k:Nat}{parts:List (Nat×SV)}{K:SV->SH->zEY R}(ho:OkH P h)(hp:∀ p∈parts,p.2.ok h)(e:(eX P t len parts k h K).run=some r) :
 ∃ v h',yB P t len (q8D parts) k (qD h.l)=some (v.enc,qD h'.l)∧Post P h h' v∧(K v h').run=some r:=by
 unfold eX at e;split at e
 ·rename_i el hel;split at e
  ·rename_i s z ty hs hz hty;obtain⟨e1,e⟩:=qG e;obtain⟨e2,e⟩:=qG e;split at e
   ·rename_i cs hcs;split at e
    ·rename_i xs hxs;obtain⟨z1,z2⟩:=eZ (h:=h) hz;obtain⟨f1,f2⟩:=pE (h:=h) hcs;obtain⟨d1,d2⟩:=qN8 hxs;have hw:ty.w=s+1:=zOH e1;have hn:=xI (k:=k) (f:=fun v=>.list el false v v ty xs) ho ⟨rfl,rfl,by rw[hs,hw],by omega⟩;refine⟨_,_,?_,⟨hn.1,hn.2,wF d2.symm⟩,e⟩;rw[tN] at f1;simp only[yB,hel,hs,z1,qQ,e2,cond_true,f1,qDG,SV.enc,d1];rfl
    ·obtain⟨z1,z2⟩:=eZ (h:=h) hz;obtain⟨f1,f2⟩:=pE (h:=h) hcs
     have zIM:okL h cs:=f2 (zM.2 fun x hx=>by
      unfold qSV at hx;obtain⟨l,hl,hx⟩:=zRL.1 hx;rw[zR9 hl] at hx
      exact zM.1 z2 x hx) hp
     have hn:=xI (k:=k) (f:=fun v=>.cells el v cs) ho ⟨rfl,zIM⟩;refine⟨_,_,?_,⟨hn.1,hn.2,?_⟩,e⟩
     ·rw[tN] at f1;simp only[yB,hel,hs,z1,qQ,e2,cond_true,f1,qDG,SV.enc];rfl
     ·simp only[SV.ok];refine⟨zPB _,fun el' gr' w' t' xs' hk=>?_⟩;rw[show slk k (h.new k fun v=>.cells el v cs).l=some (.cells el h.next cs) from kZ] at hk;cases hk
   ·cases e
  ·rename_i s z hs hz hty;obtain⟨e2,e⟩:=qG e;split at e
   ·rename_i cs hcs;obtain⟨z1,z2⟩:=eZ (h:=h) hz;obtain⟨f1,f2⟩:=pE (h:=h) hcs
    have zIM:okL h cs:=f2 (zM.2 fun x hx=>by
     unfold qSV at hx;obtain⟨l,hl,hx⟩:=zRL.1 hx;rw[zR9 hl] at hx
     exact zM.1 z2 x hx) hp
    have hn:=xI (k:=k) (f:=fun v=>.cells el v cs) ho ⟨rfl,zIM⟩;refine⟨_,_,?_,⟨hn.1,hn.2,?_⟩,e⟩
    ·rw[tN] at f1;simp only[yB,hel,hs,z1,qQ,e2,cond_true,f1,qDG,SV.enc];rfl
    ·simp only[SV.ok];refine⟨zPB _,fun el' gr' w' t' xs' hk=>?_⟩;rw[show slk k (h.new k fun v=>.cells el v cs).l=some (.cells el h.next cs) from kZ] at hk;cases hk
   ·cases e
  ·cases e
 ·cases e
def q5T (P:Program)(t:TypeId)(l:SV)(k:Nat)(h:SH)(K:SV->SH->zEY R):zEY R:=match zS P t,asI l with
 | some el,some (_,n)=>cond (zS P el).isSome (match szT P el,zcS P el with
   | some (s+1),some z=>cond (kT P el&&Nat.beq z.length (s+1)) (.bind (mkN n) fun N=>K (.own k h.next N) (h.new k fun v=>.cells el v (qSV N z))) .fail
   | _,_=>.fail) (match szT P el,zcS P el,qD3 P 8 el with
   | some (s+1),some z,some ty=>cond (kT P el&&(Nat.beq z.length (s+1)&&Nat.beq ty.w (s+1))) (match ty.zHN z with
     | some z0=>.bind (mkN n) fun N=>K (.own k h.next N) (h.new k fun v=>.list el false v v ty (List.replicate N z0))
     | none=>.fail) .fail
   | _,_,_=>.fail)
 | _,_=>.fail
omit [Yl] in
theorem qPX {t:Ty}{z:t.sem}:∀ (n:Nat),((List.replicate n z).flatMap t.cells).map PV.f=qHW n ((t.cells z).map .f)
 | 0=>rfl
 | n+1=>by
   rw[zQF,zO8,zPS,qPX n];simp[qHW,zQF]
theorem q2O {t:TypeId}{l:SV}{k:Nat}{K:SV->SH->zEY R}(ho:OkH P h)(e:(q5T P t l k h K).run=some r) :
 ∃ v h',xB P t l.enc l.enc k (qD h.l)=some (v.enc,qD h'.l)∧Post P h h' v∧(K v h').run=some r:=by
 unfold q5T at e;split at e
 ·rename_i el ki n hel hl
  cases hb:(zS P el).isSome with
  | true =>
    rw[hb] at e;simp only[cond_true] at e;split at e
    ·rename_i s z hs hz;obtain⟨e1,e⟩:=qG e;obtain⟨N,hN,e⟩:=run_bind e;obtain⟨z1,z2⟩:=eZ (h:=h) hz
     have zIM:okL h (qSV N z):=zM.2 fun x hx=>by
      unfold qSV at hx;obtain⟨l,hl,hx⟩:=zRL.1 hx;rw[zR9 hl] at hx;exact zM.1 z2 x hx
     have hn:=xI (k:=k) (f:=fun v=>.cells el v (qSV N z)) ho ⟨rfl,zIM⟩;refine⟨_,_,?_,⟨hn.1,hn.2,?_⟩,e⟩
     ·rw[yF hl];simp only[xB,fvv,hel,decide_true,cond_true,hN,hs,z1,qQ,e1,qDG,SV.enc];show some (PV.own k N 0 N,(k,(⟨el,false,qHW N (qB z)⟩:PO))::qD h.l)=some (PV.own k N 0 N,(k,⟨el,false,qB (qSV N z)⟩)::qD h.l);rw[tN]
     ·simp only[SV.ok];refine⟨zPB _,fun el' gr' w' t' xs' hk=>?_⟩;rw[show slk k (h.new k fun v=>.cells el v (qSV N z)).l=some (.cells el h.next (qSV N z)) from kZ] at hk;cases hk
    ·cases e
  | false =>
  rw[hb] at e;simp only[cond_false] at e;split at e
  ·rename_i s z ty hs hz hty;obtain⟨e1,e⟩:=qG e;simp only[zOG] at e1;obtain⟨q1,q2,q3⟩:=e1;split at e
   ·rename_i z0 hz0;obtain⟨N,hN,e⟩:=run_bind e;obtain⟨z1,z2⟩:=eZ (h:=h) hz;have hw:ty.w=s+1:=zOH q3;have hn:=xI (k:=k) (f:=fun v=>.list el false v v ty (List.replicate N z0)) ho ⟨rfl,rfl,by rw[hs,hw],by omega⟩;refine⟨_,_,?_,⟨hn.1,hn.2,wF (xs:=List.replicate N z0) (by simp)⟩,e⟩;rw[yF hl];simp only[xB,fvv,hel,decide_true,cond_true,hN,hs,z1,qQ,q1,q2,zPG,qDG,SV.enc];show some (PV.own k N 0 N,(k,(⟨el,false,qHW N (qB z)⟩:PO))::qD h.l)=some (PV.own k N 0 N,(k,⟨el,false,((List.replicate N z0).flatMap ty.cells).map PV.f⟩)::qD h.l);rw[qPX,nD hz0]
   ·cases e
  ·cases e
 ·cases e
def qXS (h:SH):SV->Bool
 | .ref k _ w=>match slk k h.l with
   | some (.cells _ _ l)=>Nat.beq w l.length
   | _=>false
 | .elt k g _ w _ _=>match slk k h.l with
   | some (.list _ _ g' _ t _)=>Nat.beq g g'&&Nat.beq w t.w
   | _=>false
 | .lp _ _ _ _=>true
 | _=>false
theorem qFG {k off w:Nat}(e:qXS h (.ref k off w)=true):live? k w (qD h.l)=true:=by
 simp only[qXS] at e;split at e
 ·rename_i el w' l hk;unfold live?;rw[zP hk];show Nat.beq w (qB l).length=true;rw[qQ];exact e
 ·cases e
theorem qGB {k g n w j off:Nat}(ho:(SV.elt k g n w j off).ok h)(e:qXS h (.elt k g n w j off)=true):live? k (n*w) (qD h.l)=true:=by
 simp only[qXS] at e;split at e
 ·rename_i el gr g' w' t xs hk;rw[zOG] at e;have hg:g=g':=zOH e.1;have hw:w=t.w:=zOH e.2;subst hg hw;simp only[SV.ok] at ho;unfold live?;rw[zP hk];show Nat.beq (n*t.w) (SO.list el gr g w' t xs).enc.cs.length=true;rw[qV,ho.2 _ _ _ _ _ hk];exact aC _
 ·cases e
def q43 (h:SH)(x:SV)(T:zEY R):zEY R:=match x with
 | .ref k _ w=>(match slk k h.l with
   | some (.spc _ (.arr _ _ xs))=>.ite (Nat.beq w (List.length xs)) T .fail
   | some (.cells _ _ l)=>cond (Nat.beq w l.length) T .fail
   | _=>.fail)
 | x=>cond (qXS h x) T .fail
theorem q15 {x:SV}{T:zEY R}(e:(q43 h x T).run=some r):T.run=some r∧(∀ k o w,x=.ref k o w->live? k w (qD h.l)=true)∧(∀ k g n w j o,x=.elt k g n w j o->qXS h x=true):=by
 unfold q43 at e;split at e
 ·rename_i k o w;split at e
  ·rename_i w' el ik xs hk
   rcases run_ite e with ⟨z,e1⟩ | ⟨_,e1⟩
   ·refine⟨e1,fun k' o' w2 h=>?_,fun _ _ _ _ _ _ h=>by cases h⟩;cases h;unfold live?;rw[zP hk];show Nat.beq w (xs.map fun x=>fvv (.int ik x)).length=true;rw[zOS];exact z
   ·cases e1
  ·rename_i el w' l hk;obtain⟨z,e1⟩:=qG e;refine⟨e1,fun k' o' w2 h=>?_,fun _ _ _ _ _ _ h=>by cases h⟩;cases h;exact qFG (off:=o) (by simp only[qXS,hk];exact z)
  ·cases e
 ·rename_i hne;obtain⟨z,e1⟩:=qG e;exact⟨e1,fun k o w h=>absurd h (hne k o w),fun _ _ _ _ _ _ _=>z⟩
def qLZ (n:Nat):SV->SV
 | .ref k off w=>.ref k (off+n) w
 | .elt k g m w j off=>.elt k g m w j (off+n)
 | .lp t xs j off=>.lp t xs j (off+n)
 | v=>v
def zDS:SV->Bool
 | .ref _ _ _=>true
 | .elt _ _ _ _ _ _=>true
 | .lp _ _ _ _=>true
 | _=>false
omit [Yl] in
theorem qU0 {n:Nat}{v:SV}(hv:v.ok h):(qLZ n v).ok h:=by
 cases v <;> simp only[qLZ,SV.ok] at hv ⊢ <;> exact hv
def p9 (P:Program)(t:TypeId)(x:SV)(i:Nat)(h:SH):Option SV:=match zBS P t i with
 | some (off,ft)=>(match szT P ft with
   | some (_+1)=>cond (qXS h x) (some (qLZ off x)) none
   | _=>none)
 | none=>none
theorem qFS {t:TypeId}{x v:SV}{i:Nat}(hx:x.ok h)(e:p9 P t x i h=some v):zY P t x.enc i (qD h.l)=some v.enc∧v.ok h:=by
 unfold p9 at e;unfold zY;split at e
 ·rename_i off ft hf;split at e
  ·rename_i s hs
   cases hl:qXS h x with
   | false=>rw[hl] at e;cases e
   | true =>
     rw[hl] at e;cases e;refine⟨?_,qU0 hx⟩;simp only[hf,hs]
     cases x with
     | ref k o w=>simp only[SV.enc,qLZ,qFG hl,cond_true]
     | elt k g n w j o=>simp only[SV.enc,qLZ,qGB hx hl,cond_true,zQG]
     | lp t xs j o=>simp only[SV.enc,qLZ,zQG]
     | _=>cases hl
  ·cases e
 ·cases e
def zDC (n:Nat)(ix:SV)(K:Nat->zEY R):zEY R:=match ix with
 | .c (.int _ i)=>(match idx n i with
   | some j=>K j
   | none=>.fail)
 | v=>(match asI v with
   | some (_,i)=>.bind (idx n i) K
   | none=>.fail)
theorem q6P {n:Nat}{ix:SV}{K:Nat->zEY R}(e:(zDC n ix K).run=some r):∃ k i j,ix.enc=fvv (.int k i)∧idx n i=some j∧(K j).run=some r:=by
 unfold zDC at e;split at e
 ·rename_i k i;split at e
  ·rename_i j hj;exact⟨k,i,j,by simp[SV.enc],hj,e⟩
  ·cases e
 ·split at e
  ·rename_i k i hi;obtain⟨j,hj,e⟩:=run_bind e;exact⟨k,i,j,yF hi,hj,e⟩
  ·cases e
def q58 (n:Nat)(ix:SV)(K K2:Nat->zEY R):zEY R:=match ix with
 | .c (.int _ i)=>(match idx n i with
   | some j=>K j
   | none=>.fail)
 | v=>(match asI v with
   | some (_,i)=>.bind (idx n i) K2
   | none=>.fail)
theorem qZ3 {n:Nat}{ix:SV}{K K2:Nat->zEY R}(e:(q58 n ix K K2).run=some r):∃ k i j,ix.enc=fvv (.int k i)∧idx n i=some j∧((K j).run=some r∨(K2 j).run=some r):=by
 unfold q58 at e;split at e
 ·rename_i k i;split at e
  ·rename_i j hj;exact⟨k,i,j,by simp[SV.enc],hj,.inl e⟩
  ·cases e
 ·split at e
  ·rename_i k i hi;obtain⟨j,hj,e⟩:=run_bind e;exact⟨k,i,j,yF hi,hj,.inr e⟩
  ·cases e
def zBP (n:Nat):SV->SV
 | .ref k off w=>.rfx k (off+n) w
 | .elt k g m w j off=>.etx k g m w j (off+n)
 | v=>qLZ n v
omit [Yl] in
theorem q6F {n:Nat}{v:SV}(hv:v.ok h):(zBP n v).ok h:=by
 cases v <;> simp only[zBP,qLZ,SV.ok] at hv ⊢ <;> exact hv
theorem qY5 {n:Nat}{v:SV}(hv:zDS v=true):(zBP n v).enc=(qLZ n v).enc:=by
 cases v <;> first | rfl | (simp only[zBP,qLZ,SV.enc])
def rT (P:Program)(t:TypeId)(x ix:SV)(h:SH)(K:SV->zEY R):zEY R:=match x with
 | .d (.list el u) xs=>(match asI ix,zS P t with
   | some (_,i),some el'=>(match szT P el' with
     | some s=>cond (Nat.beq s u.w) (.bind (idx (List.length xs) i) fun j=>K (.lp u xs j 0)) .fail
     | none=>.fail)
   | _,_=>.fail)
 | .own k g n=>(match asI ix,zS P t,slk k h.l with
   | some (_,i),some el',some (.list el _ g' _ u _)=>cond (Nat.beq el' el&&Nat.beq g g') (.bind (idx n i) fun j=>K (.elt k g n u.w j 0)) .fail
   | some (_,i),some el',some (.cells el _ cs)=>(match szT P el with
     | some s=>cond (Nat.beq el' el&&Nat.beq (n*s) cs.length) (.bind (idx n i) fun j=>K (.ref k (j*s) cs.length)) .fail
     | none=>.fail)
   | _,_,_=>.fail)
 | .sl k g n o m=>(match asI ix,zS P t,slk k h.l with
   | some (_,i),some el',some (.list el _ g' _ u _)=>cond (Nat.beq el' el&&Nat.beq g g') (.bind (idx m i) fun j=>K (.elt k g n u.w (o+j) 0)) .fail
   | _,_,_=>.fail)
 | x=>(match qPP P t with
   | some (n,el)=>(match szT P el with
     | some s=>cond (zDS x) (q43 h x (q58 n ix (fun j=>K (qLZ (j*s) x)) fun j=>K (zBP (j*s) x))) .fail
     | none=>.fail)
   | none=>.fail)
theorem qG3 {t:TypeId}{x ix:SV}{K:SV->zEY R}(ho:OkH P h)(hx:x.ok h)(e:(rT P t x ix h K).run=some r):∃ v,zC P t x.enc ix.enc (qD h.l)=some v.enc∧v.ok h∧(K v).run=some r:=by
 unfold rT at e;split at e
 ·rename_i el u xs;split at e
  ·rename_i k i el' hi hel;split at e
   ·rename_i s hs;obtain⟨h1,e1⟩:=qG e;obtain⟨j,hj,e2⟩:=run_bind e1;have hw:s=u.w:=zOH h1;subst hw;refine⟨_,?_,by simp[SV.ok],e2⟩;rw[yF hi];simp only[SV.enc,Ty.fv,fvv,zC,hel,hs,hj,zQ3]
   ·cases e
  ·cases e
 ·rename_i k g n;split at e
  ·rename_i ki i el' el gr g' w u xs hi hel hk;obtain⟨h1,e1⟩:=qG e;obtain⟨j,hj,e2⟩:=run_bind e1;rw[zOG] at h1;have hg:g=g':=zOH h1.2;subst hg;simp only[SV.ok] at hx;have hn:=hx.2 _ _ _ _ _ hk;have hl:=ho.list _ _ _ _ _ _ _ hk;refine⟨_,?_,by simp only[SV.ok];exact hx,e2⟩;rw[yF hi];simp only[SV.enc,fvv,zC,hel,zP hk]
   show (match szT P el with
    | some s=>(match idx n i with
      | some j=>cond (Nat.beq el' el&&Nat.beq (n*s) (SO.list el gr g w u xs).enc.cs.length) (some (PV.ref k (SO.list el gr g w u xs).enc.cs.length ((0+j)*s))) none
      | none=>none)
    | none=>none)=_
   rw[hl.2.1,hj];simp only[qV,hn,aC,h1.1,zPG,cond_true,zPF,zQ3]
  ·rename_i ki i el' el w cs hi hel hk;split at e
   ·rename_i s hs;obtain⟨h1,e1⟩:=qG e;obtain⟨j,hj,e2⟩:=run_bind e1;refine⟨_,?_,by simp[SV.ok],e2⟩;rw[yF hi];simp only[SV.enc,fvv,zC,hel,zP hk]
    show (match szT P el with
     | some s=>(match idx n i with
       | some j=>cond (Nat.beq el' el&&Nat.beq (n*s) (qB cs).length) (some (PV.ref k (qB cs).length ((0+j)*s))) none
       | none=>none)
     | none=>none)=_
    rw[hs,hj];simp only[qQ,h1,cond_true,zPF]
   ·cases e
  ·cases e
 ·rename_i k g n o m;split at e
  ·rename_i ki i el' el gr g' w u xs hi hel hk;obtain⟨h1,e1⟩:=qG e;obtain⟨j,hj,e2⟩:=run_bind e1;rw[zOG] at h1;have hg:g=g':=zOH h1.2;subst hg;simp only[SV.ok] at hx;have hn:=hx.1.2 _ _ _ _ _ hk;have hl:=ho.list _ _ _ _ _ _ _ hk;refine⟨_,?_,by simp only[SV.ok];exact hx.1,e2⟩;rw[yF hi];simp only[SV.enc,fvv,zC,hel,zP hk]
   show (match szT P el with
    | some s=>(match idx m i with
      | some j=>cond (Nat.beq el' el&&Nat.beq (n*s) (SO.list el gr g w u xs).enc.cs.length) (some (PV.ref k (SO.list el gr g w u xs).enc.cs.length ((o+j)*s))) none
      | none=>none)
    | none=>none)=_
   rw[hl.2.1];simp only[hj,qV,hn,aC,h1.1,zPG,cond_true,zQ3]
  ·cases e
 ·split at e
  ·rename_i n el ha;split at e
   ·rename_i s hs;obtain⟨h1,e⟩:=qG e;obtain⟨e,h2,h3⟩:=q15 e;obtain⟨ki,i,j,hi,hj,e⟩:=qZ3 e
    obtain⟨v,hv1,hv2,e⟩:∃ v:SV,v.enc=(qLZ (j*s) x).enc∧v.ok h∧(K v).run=some r:=by
     rcases e with e | e
     ·exact⟨_,rfl,qU0 hx,e⟩
     ·exact⟨_,qY5 h1,q6F hx,e⟩
    refine⟨_,?_,hv2,e⟩;rw[hi,hv1]
    cases x with
    | ref k o w=>simp only[SV.enc,qLZ,fvv,zC,ha,hs,hj,h2 _ _ _ rfl,cond_true]
    | elt k g n w j o=>simp only[SV.enc,qLZ,fvv,zC,ha,hs,hj,qGB hx (h3 _ _ _ _ _ _ rfl),cond_true,zQG]
    | lp t xs j o=>simp only[SV.enc,qLZ,fvv,zC,ha,hs,hj,zQG]
    | _=>cases h1
   ·cases e
  ·cases e
def qTY (P:Program)(t:TypeId)(x ix:SV)(K:SV->zEY R):zEY R:=match qPP P t,x with
 | some (n,el),.agg l=>(match szT P el with
   | some s=>zDC n ix fun j=>match qGW P el l (j*s) with
     | some v=>K v
     | none=>.fail
   | none=>.fail)
 | _,_=>.fail
theorem qU9 {t:TypeId}{x ix:SV}{K:SV->zEY R}(hx:x.ok h)(e:(qTY P t x ix K).run=some r):∃ v,qEX P t x.enc ix.enc=some v.enc∧v.ok h∧(K v).run=some r∧∃ l,x=.agg l:=by
 unfold qTY at e;split at e
 ·rename_i n el l ha;split at e
  ·rename_i s hs;obtain⟨ki,i,j,hi,hj,e⟩:=q6P e;split at e
   ·rename_i v hv;obtain⟨h1,h2⟩:=qHN (h:=h) hv;simp only[SV.ok] at hx;refine⟨v,?_,h2 hx,e,l,rfl⟩;rw[hi];simp only[qEX,ha,SV.enc,fvv,hs,hj];exact h1
   ·cases e
  ·cases e
 ·cases e
def qFU (v:SV)(i:Nat):Option SV:=match v with
 | .tup l=>(match zL l i with
   | some x=>cond (pnt x.enc) (some x) none
   | none=>none)
 | _=>none
theorem qMK {x v:SV}{i:Nat}(hx:x.ok h)(e:qFU x i=some v):bL x.enc i=some v.enc∧v.ok h:=by
 unfold qFU at e;split at e
 ·rename_i l;split at e
  ·rename_i y hy
   cases hp:pnt y.enc with
   | false=>rw[hp] at e;cases e
   | true =>
     rw[hp] at e;cases e;simp only[SV.ok] at hx;refine⟨?_,mW hx hy⟩;simp only[bL,SV.enc,qW,hy,zOW,hp,cond_true]
  ·cases e
 ·cases e
def qCS (fn:Fn)(first cap:List SV):Option SV:=match fn with
 | .func g=>some (match first,cap with
   | [],[]=>.c (.func (.func g) #[] #[])
   | _,_=>.fn g first cap)
 | _=>none
theorem qH4 {fn:Fn}{first cap:List SV}{v:SV}(h1:okL h first)(h2:okL h cap)(e:qCS fn first cap=some v):vF fn (qB first) (qB cap)=some v.enc∧v.ok h:=by
 unfold qCS at e;split at e
 ·rename_i g;cases e
  cases first with
  | nil=>cases cap with
    | nil=>exact⟨by simp[vF,qB,SV.enc],by simp[SV.ok]⟩
    | cons x l=>exact⟨by simp[vF,qB,SV.enc],by simp only[SV.ok];exact⟨h1,h2⟩⟩
  | cons y l=>exact⟨by simp[vF,qB,SV.enc],by simp only[SV.ok];exact⟨h1,h2⟩⟩
 ·cases e
def qCN (v:SV)(h:SH):Option SV:=match v with
 | .fn _ _ _=>some v
 | .c (.func (.func _) _ _)=>some v
 | v=>cond (qXS h v) (some v) none
theorem qJM {x v:SV}(hx:x.ok h)(e:qCN x h=some v):yN x.enc (qD h.l)=some v.enc∧v.ok h:=by
 unfold qCN at e;split at e
 ·cases e;exact⟨by simp[yN,SV.enc],hx⟩
 ·cases e;exact⟨by simp[yN,SV.enc,fvv],hx⟩
 ·cases hl:qXS h x with
  | false=>rw[hl] at e;cases e
  | true =>
    rw[hl] at e;cases e;refine⟨?_,hx⟩
    cases x with
    | ref k o w=>simp only[SV.enc,yN,qFG hl,cond_true]
    | elt k g n w j o=>simp only[SV.enc,yN,qGB hx hl,cond_true]
    | lp t xs j o=>simp only[SV.enc,yN]
    | _=>cases hl
end
end Go.Sv
namespace Go.Sv
open Go.Idl
variable {el:TypeId}{k:Nat}{t:Ty}{x:SV}
noncomputable section
variable [Gc]
variable [Yl]
variable {P:Program}{h:SH}{R:Type}{r:R}
def zDJ (P:Program)(ts:Array TypeId)(x:SV)(h:SH):Option SV:=match ts[0]? with
 | some t=>(match zS P t with
   | some _=>(match x with
     | .d (.list _ _) xs=>some (.d (.int .i64) ((List.length xs:Nat):Int))
     | .c (.slice _ n _)=>some (.c (.int .i64 (n:Int)))
     | .own k g n=>(match slk k h.l with
       | some (.list _ _ g' _ _ _)=>cond (Nat.beq g g') (some (.d (.int .i64) (n:Int))) none
       | some (.cells el _ cs)=>(match szT P el with
         | some s=>cond (Nat.beq (n*s) cs.length) (some (.c (.int .i64 (n:Int)))) none
         | none=>none)
       | _=>none)
     | .sl k g _ _ m=>(match slk k h.l with
       | some (.list _ _ g' _ _ _)=>cond (Nat.beq g g') (some (.d (.int .i64) (m:Int))) none
       | _=>none)
     | _=>none)
   | none=>(match qPP P t with
     | some (n,_)=>some (.c (.int .i64 (n:Int)))
     | none=>none))
 | none=>none
theorem q5Q {ts:Array TypeId}{v:SV}(ho:OkH P h)(hx:x.ok h)(e:zDJ P ts x h=some v):q2G P ts x.enc (qD h.l)=some v.enc∧v.ok h:=by
 unfold zDJ at e;unfold q2G;split at e
 ·rename_i t ht;split at e
  ·rename_i el hel;split at e
   ·rename_i el' u xs;cases e;simp[ht,hel,SV.enc,Ty.fv,fvv,SV.ok]
   ·rename_i a n c;cases e;simp[ht,hel,SV.enc,fvv,SV.ok]
   ·rename_i k g n;split at e
    ·rename_i el' gr g' w u xs hk
     obtain⟨h1,e1⟩:Nat.beq g g'=true∧some (SV.d (.int .i64) (n:Int))=some v:=by
      cases hb:Nat.beq g g' with
      | false=>rw[hb] at e;cases e
      | true=>rw[hb] at e;exact⟨rfl,e⟩
     cases e1;have hg:g=g':=zOH h1;subst hg;simp only[SV.ok] at hx;have hn:=hx.2 _ _ _ _ _ hk;have hl:=ho.list _ _ _ _ _ _ _ hk;refine⟨?_,by simp[SV.ok]⟩;simp only[ht,hel,SV.enc,zP hk]
     show (match szT P el' with
      | some s=>cond (Nat.beq (n*s) (SO.list el' gr g w u xs).enc.cs.length) (some (fvv (.int .i64 (n:Int)))) none
      | none=>none)=_
     rw[hl.2.1];simp only[qV,hn,aC,cond_true,Ty.fv,fvv]
    ·rename_i el' w cs hk;split at e
     ·rename_i s hs
      cases hb:Nat.beq (n*s) cs.length with
      | false=>rw[hb] at e;cases e
      | true =>
        rw[hb] at e;cases e;refine⟨?_,by simp[SV.ok]⟩;simp only[ht,hel,SV.enc,zP hk]
        show (match szT P el' with
         | some s=>cond (Nat.beq (n*s) (qB cs).length) (some (fvv (.int .i64 (n:Int)))) none
         | none=>none)=_
        rw[hs];simp only[qQ,hb,cond_true]
     ·cases e
    ·cases e
   ·rename_i k g n o m;split at e
    ·rename_i el' gr g' w u xs hk
     obtain⟨h1,e1⟩:Nat.beq g g'=true∧some (SV.d (.int .i64) (m:Int))=some v:=by
      cases hb:Nat.beq g g' with
      | false=>rw[hb] at e;cases e
      | true=>rw[hb] at e;exact⟨rfl,e⟩
     cases e1;have hg:g=g':=zOH h1;subst hg;simp only[SV.ok] at hx;have hn:=hx.1.2 _ _ _ _ _ hk;have hl:=ho.list _ _ _ _ _ _ _ hk;refine⟨?_,by simp[SV.ok]⟩;simp only[ht,hel,SV.enc,zP hk]
     show (match szT P el' with
      | some s=>cond (Nat.beq (n*s) (SO.list el' gr g w u xs).enc.cs.length) (some (fvv (.int .i64 (m:Int)))) none
      | none=>none)=_
     rw[hl.2.1];simp only[qV,hn,aC,cond_true,Ty.fv,fvv]
    ·cases e
   ·cases e
  ·rename_i hel;split at e
   ·rename_i n el ha;cases e;simp[ht,hel,ha,SV.enc,SV.ok]
   ·cases e
 ·cases e
def qDC (u t:Ty)(xs:List u.sem):Option (List t.sem):=if e:u=t then some (e ▸ xs) else none
omit [Yl] in
theorem uD {u:Ty}{xs:List u.sem}{ys:List t.sem}(e:qDC u t xs=some ys):(⟨u,xs⟩:(t:Ty)×List t.sem)=⟨t,ys⟩:=by
 unfold qDC at e;split at e
 ·rename_i h;subst h;cases e;rfl
 ·cases e
def qTX (t:Ty)(x:SV)(h:SH):Option (List t.sem):=match x with
 | .d (.list _ u) xs=>qDC u t xs
 | .c (.slice none 0 _)=>some []
 | .own k g _=>(match slk k h.l with
   | some (.list _ _ g' _ u xs)=>cond (Nat.beq g g') (qDC u t xs) none
   | _=>none)
 | .sl k g _ o m=>(match slk k h.l with
   | some (.list _ _ g' _ u xs)=>cond (Nat.beq g g') (match qDC u t xs with
     | some xs=>some ((xs.drop o).take m)
     | none=>none) none
   | _=>none)
 | _=>none
theorem qFI {ys:List t.sem}(ho:OkH P h)(hx:x.ok h)(e:qTX t x h=some ys):mR P t.w x.enc (qD h.l)=some (ys.length,(ys.flatMap t.cells).map .f):=by
 unfold qTX at e;unfold mR;split at e
 ·rename_i el u xs;cases uD e;simp only[SV.enc,Ty.fv,zW,aC,cond_true]
 ·cases e;simp[SV.enc,fvv]
 ·rename_i k g n;split at e
  ·rename_i el gr g' w u xs hk
   cases hb:Nat.beq g g' with
   | false=>rw[hb] at e;cases e
   | true =>
     rw[hb] at e;have hg:g=g':=zOH hb;subst hg;cases uD e;simp only[SV.ok] at hx;have hn:=hx.2 _ _ _ _ _ hk;have hl:=ho.list _ _ _ _ _ _ _ hk;simp only[SV.enc,zP hk]
     show (match szT P el with
      | some s'=>cond (Nat.beq (n*s') (SO.list el gr g w t ys).enc.cs.length&&Nat.beq t.w s') (some (n,(((ys.flatMap t.cells).map PV.f).drop (0*t.w)).take (n*t.w))) none
      | none=>none)=_
     rw[hl.2.1];simp only[qV,hn,aC,zPG,cond_true,zRV,zP1];rw[zO5 (by rw[zOS,zW];exact zOI _)]
  ·cases e
 ·rename_i k g n o m;split at e
  ·rename_i el gr g' w u xs hk
   cases hb:Nat.beq g g' with
   | false=>rw[hb] at e;cases e
   | true =>
     rw[hb] at e;have hg:g=g':=zOH hb;subst hg;simp only[cond_true] at e;split at e
     case h_2=>cases e
     rename_i xs2 zMP;cases e;cases uD zMP;simp only[SV.ok] at hx;have hn:=hx.1.2 _ _ _ _ _ hk;have hl:=ho.list _ _ _ _ _ _ _ hk;simp only[SV.enc,zP hk]
     show (match szT P el with
      | some s'=>cond (Nat.beq (n*s') (SO.list el gr g w t xs2).enc.cs.length&&Nat.beq t.w s') (some (m,(((xs2.flatMap t.cells).map PV.f).drop (o*t.w)).take (m*t.w))) none
      | none=>none)=_
     rw[hl.2.1];simp only[qV,hn,aC,zPG,cond_true];rw[<-zQT,<-zQO,gH,gI]
     congr 1
     have:=hx.2;rw[zPQ,zQM,zP7 (by omega)]
  ·cases e
 ·cases e
omit [Yl] in
theorem qBO (ys:List t.sem):((ys.flatMap t.cells).map PV.f).all fU=true:=by
 rw[zOJ];intro x hx;obtain⟨y,_,rfl⟩:=zO6.1 hx;rfl
omit [Yl] in
theorem qGA {h0:SH}{gr:Bool}{n m:Nat}{ty:Ty}{xs ys:List ty.sem}(hn:n=xs.length)(hm:m=ys.length):(SV.own k h0.next (n+m)).ok (h0.new k fun v=>.list el gr v v ty (xs++ys)) :=
 wF (by rw[zO0,hn,hm])
def qG1 (P:Program)(ts:List TypeId)(base x:SV)(k:Nat)(h:SH)(K:SV->SH->zEY R):zEY R:=match ts with
 | [st,xt]=>(match zS P st,zS P xt with
   | some el,some _=>(match szT P el,qD3 P 8 el with
     | some (s+1),some t=>cond (Nat.beq t.w (s+1)&&kT P el) (match qTX t x h with
       | some ys=>(match base with
         | .c (.slice none 0 0)=>.ite (Nat.beq ys.length 0) (K base h)
            (.ite (Nat.ble (0+ys.length) 1048576) (K (.own k h.next (0+ys.length)) (h.new k fun v=>.list el true v v t ([]++ys))) .fail)
         | .own j g n=>(match slk j h.l with
           | some (.list el' gr g' _ u xs)=>cond (Nat.beq el' el&&Nat.beq g g') (match qDC u t xs with
             | some xs=>.ite (Nat.beq ys.length 0) (K base h)
                (.ite (Nat.ble (n+ys.length) 1048576) (cond gr (K (.own j h.next (n+ys.length)) ((h.del j).new j fun v=>.list el true v v t (xs++ys))) (K (.own k h.next (n+ys.length)) (h.new k fun v=>.list el true v v t (xs++ys)))) .fail)
             | none=>.fail) .fail
           | _=>.fail)
         | _=>.fail)
       | none=>.fail) .fail
     | _,_=>.fail)
   | _,_=>.fail)
 | _=>.fail
omit [Yl] in
theorem qHR {xs ys:List t.sem}{ph:PHp}(h1:Nat.ble (xs.length+ys.length) 1048576=true)(h2:kT P el=true) :
 mY P el t.w ((xs.flatMap t.cells).map .f) xs.length ((ys.flatMap t.cells).map .f) ys.length k ph=some (.own k (xs.length+ys.length) 0 (xs.length+ys.length),(k,⟨el,true,((xs++ys).flatMap t.cells).map .f⟩)::ph):=by
 unfold mY;rw[h1,h2,zOS,zW,zOS,zW,qBO];simp only[aC,zPG,cond_true,qDG];rw[zRM,zPS]
theorem qE2 {ts:List TypeId}{base:SV}{K:SV->SH->zEY R}(ho:OkH P h)(hb:base.ok h)(hx:x.ok h)(e:(qG1 P ts base x k h K).run=some r) :
 ∃ v h',zX P ts base.enc x.enc k (qD h.l)=some (v.enc,qD h'.l)∧Post P h h' v∧(K v h').run=some r:=by
 unfold qG1 at e;split at e
 ·rename_i st xt;split at e
  ·rename_i el el2 hel zGX;split at e
   ·rename_i s t hs hty;have e_:=qG e;clear e;obtain⟨c1,e⟩:=e_;rw[zOG] at c1;have hw:s+1=t.w:=(zOH c1.1).symm;split at e
    ·rename_i ys hys;have hnw:=qFI ho hx hys;split at e
     ·have e_:=run_ite e;clear e
      rcases e_ with ⟨z,e⟩ | ⟨z,e⟩
      ·refine⟨_,_,?_,⟨.refl _,ho,hb⟩,e⟩;simp only[zX,hel,zGX,hs,SV.enc,fvv];rw[hw,hnw];simp only[z,cond_true]
      ·have e_:=run_ite e;clear e
       rcases e_ with ⟨z2,e⟩ | ⟨z2,e⟩
       ·have hn:=xI (k:=k) (f:=fun v=>.list el true v v t ([]++ys)) ho ⟨rfl,rfl,by rw[hs];exact congrArg some hw,by omega⟩;refine⟨_,_,?_,⟨hn.1,hn.2,qGA (xs:=[]) rfl rfl⟩,e⟩;simp only[zX,hel,zGX,hs,SV.enc,fvv];rw[hw,hnw];simp only[z,cond_false];exact qHR (xs:=[]) z2 c1.2
       ·cases e
     ·rename_i j g n;split at e
      ·rename_i el' gr g' w u xs0 hk;have e_:=qG e;clear e;obtain⟨c2,e⟩:=e_;rw[zOG] at c2;have he:el'=el:=zOH c2.1;have hg:g=g':=zOH c2.2;split at e
       ·rename_i xs hxs;have hcast:=uD hxs
        have hk2:slk j h.l=some (.list el gr g w t xs):=by
         rw[hk,he,<-hg];cases hcast;rfl
        have hnl:n=xs.length:=by
         simp only[SV.ok] at hb;exact hb.2 _ _ _ _ _ hk2
        have pre:∀ z:PV×PHp,(cond (Nat.beq ys.length 0) (some (PV.own j n 0 n,qD h.l))
         (cond (Nat.ble (n+ys.length) n) (cond (Nat.beq ((ys.flatMap t.cells).map PV.f).length (ys.length*(s+1))&&((ys.flatMap t.cells).map PV.f).all fU) (some (PV.own j n 0 (n+ys.length),xW j { (SO.list el gr g w t xs).enc with cs:=yI (SO.list el gr g w t xs).enc.cs (n*(s+1)) ((ys.flatMap t.cells).map PV.f) } (qD h.l))) none)
           (cond gr (mY P el (s+1) (SO.list el gr g w t xs).enc.cs n ((ys.flatMap t.cells).map PV.f) ys.length j (nR j (qD h.l))) (mY P el (s+1) (SO.list el gr g w t xs).enc.cs n ((ys.flatMap t.cells).map PV.f) ys.length k (qD h.l)))))=some z ->
         zX P [st,xt] (SV.own j g n).enc x.enc k (qD h.l)=some z:=fun z hz=>by
         simp only[zX,hel,zGX,hs,SV.enc];rw[show mR P (s+1) x.enc (qD h.l)=_ from (hw ▸ hnw)];simp only[zP hk2];rw[show (SO.list el gr g w t xs).enc.el=el from rfl,show Nat.beq (n*(s+1)) (SO.list el gr g w t xs).enc.cs.length=true by rw[qV,hw,hnl];exact aC _];simp only[aC,zPG,cond_true];exact hz
        have e_:=run_ite e;clear e
        rcases e_ with ⟨z,e⟩ | ⟨z,e⟩
        ·refine⟨_,_,pre _ ?_,⟨.refl _,ho,hb⟩,e⟩;rw[z];simp[SV.enc]
        ·have e_:=run_ite e;clear e
         rcases e_ with ⟨z2,e⟩ | ⟨z2,e⟩
         ·have hpos:Nat.ble (n+ys.length) n=false:=by
           cases hq:Nat.ble (n+ys.length) n with
           | false=>rfl
           | true =>
             have h0:=zOQ hq;have:ys.length=0:=by omega
             rw[this] at z;cases z
          cases hgr:gr with
          | true =>
            rw[hgr] at e;have hd:=gU (k:=j) ho;have hn:=xI (h:=h.del j) (k:=j) (f:=fun v=>.list el true v v t (xs++ys)) hd.2 ⟨rfl,rfl,by rw[hs];exact congrArg some hw,by omega⟩;refine⟨_,_,pre _ ?_,⟨hd.1.trans hn.1,hn.2,qGA (h0:=h.del j) hnl rfl⟩,e⟩;rw[z,hpos,hgr];simp only[cond_true,cond_false];rw[hw,hnl];rw[hnl] at z2;rw[show (SO.list el true g w t xs).enc.cs=(xs.flatMap t.cells).map .f from rfl,qHR z2 c1.2,<-fB];rfl
          | false =>
            rw[hgr] at e;have hn:=xI (h:=h) (k:=k) (f:=fun v=>.list el true v v t (xs++ys)) ho ⟨rfl,rfl,by rw[hs];exact congrArg some hw,by omega⟩;refine⟨_,_,pre _ ?_,⟨hn.1,hn.2,qGA (h0:=h) hnl rfl⟩,e⟩;rw[z,hpos,hgr];simp only[cond_false];rw[hw,hnl];rw[hnl] at z2;rw[show (SO.list el false g w t xs).enc.cs=(xs.flatMap t.cells).map .f from rfl,qHR z2 c1.2];rfl
         ·cases e
       ·cases e
      ·cases e
     ·cases e
    ·cases e
   ·cases e
  ·cases e
 ·cases e
end
end Go.Sv
namespace Go.Sv
open Go.Idl
variable {base x:SV}{c o:Nat}{ts:List TypeId}
noncomputable section
variable [Gc]
variable [Yl]
variable {P:Program}{h:SH}{R:Type}{r:R}
def sQ {α:Type}(xs ys:List α)(o c:Nat):List α:=xs.take o++(ys.take c++xs.drop (o+c))
omit [Yl] in
theorem qN5 {α:Type}{xs ys:List α}(h1:o+c<=xs.length)(h2:c<=ys.length):xs.length=(sQ xs ys o c).length:=by
 simp[sQ];omega
omit [Yl] in
theorem qJS {t:Ty}{xs ys:List t.sem}(h2:c<=ys.length) :
 yI ((xs.flatMap t.cells).map PV.f) (o*t.w) (((ys.flatMap t.cells).map PV.f).take (c*t.w))=((sQ xs ys o c).flatMap t.cells).map PV.f:=by
 have hl:(((ys.flatMap t.cells).map PV.f).take (c*t.w)).length=c*t.w:=by
  rw[zPQ,zOS,zW];exact zP7 (zPO _ h2)
 unfold yI;rw[hl,<-zQ2,<-zQO,<-zQO,<-zQT,gI,gI,gH];unfold sQ;simp[zRM,zPE]
def q7U (P:Program)(ts:List TypeId)(base x:SV)(h:SH)(K:SV->SH->zEY R):zEY R:=match ts with
 | [st,xt]=>(match zS P st,zS P xt with
   | some el,some _=>(match szT P el,qD3 P 8 el with
     | some (s+1),some t=>cond (Nat.beq t.w (s+1)) (match qTX t x h with
       | some ys=>(match base with
         | .own j g n=>(match slk j h.l with
           | some (.list el' gr g' _ u xs)=>cond (Nat.beq el' el&&Nat.beq g g') (match qDC u t xs with
             | some xs=>K (.d (.int .i64) ((Nat.min ys.length n:Nat):Int)) (h.put j fun v=>.list el gr g v t (sQ xs ys 0 (Nat.min ys.length n)))
             | none=>.fail) .fail
           | _=>.fail)
         | .sl j g n o m=>(match slk j h.l with
           | some (.list el' gr g' _ u xs)=>cond (Nat.beq el' el&&Nat.beq g g') (match qDC u t xs with
             | some xs=>K (.d (.int .i64) ((Nat.min ys.length m:Nat):Int)) (h.put j fun v=>.list el gr g v t (sQ xs ys o (Nat.min ys.length m)))
             | none=>.fail) .fail
           | _=>.fail)
         | .d (.list _ _) xs=>.ite (Nat.beq (List.length xs) 0) (K (.d (.int .i64) 0) h) .fail
         | .c (.slice none 0 _)=>K (.d (.int .i64) 0) h
         | _=>.fail)
       | none=>.fail) .fail
     | _,_=>.fail)
   | _,_=>.fail)
 | _=>.fail
theorem q0Z {K:SV->SH->zEY R}(ho:OkH P h)(hb:base.ok h)(hx:x.ok h)(e:(q7U P ts base x h K).run=some r) :
 ∃ v h',qF2 P ts base.enc x.enc (qD h.l)=some (v.enc,qD h'.l)∧Post P h h' v∧(K v h').run=some r:=by
 unfold q7U at e;split at e
 ·rename_i st xt;split at e
  ·rename_i el el2 hel zGX;split at e
   ·rename_i s t hs hty;have e_:=qG e;clear e;obtain⟨c1,e⟩:=e_;have hw:s+1=t.w:=(zOH c1).symm;split at e
    ·rename_i ys hys;have hnw:mR P (s+1) x.enc (qD h.l)=some (ys.length,(ys.flatMap t.cells).map .f):=hw ▸ qFI ho hx hys;have hlen:((ys.flatMap t.cells).map PV.f).length=ys.length*(s+1):=by rw[zOS,zW,hw]
     have key:∀ {j g n o m w:Nat} {gr:Bool} {xs:List t.sem},slk j h.l=some (.list el gr g w t xs)->n=xs.length->o+m<=n ->
      (K (.d (.int .i64) ((Nat.min ys.length m:Nat):Int)) (h.put j fun v=>.list el gr g v t (sQ xs ys o (Nat.min ys.length m)))).run=some r ->
      ∃ v h',qF2 P [st,xt] (.own j n o m) x.enc (qD h.l)=some (v.enc,qD h'.l)∧Post P h h' v∧(K v h').run=some r:=by
      intro j g n o m w gr xs hk hn hom e;have hc:Nat.min ys.length m<=ys.length:=Nat.min_le_left _ _;have hc2:Nat.min ys.length m<=m:=Nat.min_le_right _ _;have hp:=vO (f:=fun v=>.list el gr g v t (sQ xs ys o (Nat.min ys.length m))) ho hk ⟨_,rfl,qN5 (by omega) hc⟩;refine⟨_,_,?_,⟨hp.1,hp.2,by simp[SV.ok]⟩,e⟩;simp only[qF2,hel,zGX,hs,hnw,zP hk];rw[show (SO.list el gr g w t xs).enc.el=el from rfl,show Nat.beq (n*(s+1)) (SO.list el gr g w t xs).enc.cs.length=true by rw[qV,hw,hn];exact aC _,hlen,qBO];simp only[aC,zPG,cond_true];rw[show qD (h.put j fun v=>.list el gr g v t (sQ xs ys o (Nat.min ys.length m))).l=xW j (SO.list el gr g h.next t (sQ xs ys o (Nat.min ys.length m))).enc (qD h.l) from xQ j _ _];rw[hw];show some (_,xW j ⟨el,gr,yI ((xs.flatMap t.cells).map PV.f) (o*t.w) _⟩ (qD h.l))=some (_,xW j ⟨el,gr,((sQ xs ys o (Nat.min ys.length m)).flatMap t.cells).map PV.f⟩ (qD h.l));rw[qJS hc];simp[SV.enc,Ty.fv,fvv]
     split at e
     ·rename_i j g n;split at e
      ·rename_i el' gr g' w u xs0 hk;have e_:=qG e;clear e;obtain⟨c2,e⟩:=e_;rw[zOG] at c2;have he:el'=el:=zOH c2.1;have hg:g=g':=zOH c2.2;split at e
       ·rename_i xs hxs;have hcast:=uD hxs
        have hk2:slk j h.l=some (.list el gr g w t xs):=by
         rw[hk,he,<-hg];cases hcast;rfl
        simp only[SV.ok] at hb;exact key hk2 (hb.2 _ _ _ _ _ hk2) (by omega) e
       ·cases e
      ·cases e
     ·rename_i j g n o m;split at e
      ·rename_i el' gr g' w u xs0 hk;have e_:=qG e;clear e;obtain⟨c2,e⟩:=e_;rw[zOG] at c2;have he:el'=el:=zOH c2.1;have hg:g=g':=zOH c2.2;split at e
       ·rename_i xs hxs;have hcast:=uD hxs
        have hk2:slk j h.l=some (.list el gr g w t xs):=by
         rw[hk,he,<-hg];cases hcast;rfl
        simp only[SV.ok] at hb;exact key hk2 (hb.1.2 _ _ _ _ _ hk2) hb.2 e
       ·cases e
      ·cases e
     ·rename_i el' u xs
      rcases run_ite e with ⟨z,e⟩ | ⟨z,e⟩
      ·refine⟨_,_,?_,⟨.refl _,ho,by simp[SV.ok]⟩,e⟩;have hz:xs=[]:=zPT.1 (zOH z);subst hz;simp[qF2,hel,zGX,hs,hnw,SV.enc,Ty.fv,fvv]
      ·cases e
     ·refine⟨_,_,?_,⟨.refl _,ho,by simp[SV.ok]⟩,e⟩;simp[qF2,hel,zGX,hs,hnw,SV.enc,Ty.fv,fvv]
     ·cases e
    ·cases e
   ·cases e
  ·cases e
 ·cases e
def q71 (P:Program)(ts:List TypeId)(base x:SV)(k:Nat)(h:SH)(K:SV->SH->zEY R):zEY R:=match base with
 | .sl j g n o m=>(match ts with
   | [st,xt]=>(match zS P st,zS P xt with
     | some el,some _=>(match szT P el,qD3 P 8 el with
       | some (s+1),some t=>cond (Nat.beq t.w (s+1)&&Nat.beq o 0) (match qTX t x h with
         | some ys=>(match slk j h.l with
           | some (.list el' gr g' _ u xs)=>cond (Nat.beq el' el&&Nat.beq g g') (match qDC u t xs with
             | some xs=>.ite (Nat.beq ys.length 0) (K base h)
                (.ite (Nat.ble (m+ys.length) n) (K (.sl j g n 0 (m+ys.length)) (h.put j fun v=>.list el gr g v t (sQ xs ys m ys.length)))
                  (.ite (Nat.beq m n) (qG1 P ts (.own j g n) x k h K) .fail))
             | none=>.fail) .fail
           | _=>.fail)
         | none=>.fail) .fail
       | _,_=>.fail)
     | _,_=>.fail)
   | _=>.fail)
 | base=>qG1 P ts base x k h K
theorem q1K {k:Nat}{K:SV->SH->zEY R}(ho:OkH P h)(hb:base.ok h)(hx:x.ok h)(e:(q71 P ts base x k h K).run=some r) :
 ∃ v h',zX P ts base.enc x.enc k (qD h.l)=some (v.enc,qD h'.l)∧Post P h h' v∧(K v h').run=some r:=by
 unfold q71 at e;split at e
 case h_2=>exact qE2 ho hb hx e
 rename_i j g n o m;split at e
 case h_2=>cases e
 rename_i st xt;split at e
 case h_2=>cases e
 rename_i el el2 hel zGX;split at e
 case h_2=>cases e
 rename_i s t hs hty;obtain⟨c1,e1⟩:=qG e;rw[zOG] at c1;have hw:s+1=t.w:=(zOH c1.1).symm;have h0:o=0:=zOH c1.2;subst h0;split at e1
 case h_2=>cases e1
 rename_i ys hys;have hnw:mR P (s+1) x.enc (qD h.l)=some (ys.length,(ys.flatMap t.cells).map .f):=hw ▸ qFI ho hx hys;split at e1
 case h_2=>cases e1
 rename_i el' gr g' w u xs0 hk;obtain⟨c2,e2⟩:=qG e1;rw[zOG] at c2;have he:el'=el:=zOH c2.1;have hg:g=g':=zOH c2.2;split at e2
 case h_2=>cases e2
 rename_i xs hxs;have hcast:=uD hxs
 have hk2:slk j h.l=some (.list el gr g w t xs):=by
  rw[hk,he,<-hg];cases hcast;rfl
 simp only[SV.ok] at hb;have hnl:n=xs.length:=hb.1.2 _ _ _ _ _ hk2;have hlen:((ys.flatMap t.cells).map PV.f).length=ys.length*(s+1):=by rw[zOS,zW,hw]
 rcases run_ite e2 with ⟨z,e3⟩ | ⟨z,e3⟩
 ·refine⟨_,_,?_,⟨.refl _,ho,by simp only[SV.ok];exact hb⟩,e3⟩;simp only[zX,hel,zGX,hs,SV.enc,hnw,zP hk2];rw[show (SO.list el gr g w t xs).enc.el=el from rfl,show Nat.beq (n*(s+1)) (SO.list el gr g w t xs).enc.cs.length=true by rw[qV,hw,hnl];exact aC _];simp only[aC,zPG,cond_true,z]
 ·rcases run_ite e3 with ⟨z2,e4⟩ | ⟨z2,e4⟩
  ·have hle:=zOQ z2;have hp:=vO (f:=fun v=>.list el gr g v t (sQ xs ys m ys.length)) ho hk2 ⟨_,rfl,qN5 (by omega) (zOI _)⟩;refine⟨_,_,?_,⟨hp.1,hp.2,?_⟩,e4⟩
   ·simp only[zX,hel,zGX,hs,SV.enc,hnw,zP hk2];rw[show (SO.list el gr g w t xs).enc.el=el from rfl,show Nat.beq (n*(s+1)) (SO.list el gr g w t xs).enc.cs.length=true by rw[qV,hw,hnl];exact aC _,hlen,qBO];simp only[aC,zPG,cond_true,z,z2,cond_false];rw[show qD (h.put j fun v=>.list el gr g v t (sQ xs ys m ys.length)).l=xW j (SO.list el gr g h.next t (sQ xs ys m ys.length)).enc (qD h.l) from xQ j _ _];rw[hw];show some (_,xW j ⟨el,gr,yI ((xs.flatMap t.cells).map PV.f) (m*t.w) _⟩ (qD h.l))=some (_,xW j ⟨el,gr,((sQ xs ys m ys.length).flatMap t.cells).map PV.f⟩ (qD h.l));rw[<-qJS (zOI _),zO5 (by rw[zOS,zW];exact zOI _)]
   ·simp only[SV.ok];exact⟨hb.1.keep hp.1,by omega⟩
  ·rcases run_ite e4 with ⟨z3,e5⟩ | ⟨_,e5⟩
   ·have hmn:m=n:=zOH z3;subst hmn;have:=qE2 (base:=.own j g m) ho (by simp only[SV.ok];exact hb.1) hx e5;simpa only[SV.enc] using this
   ·cases e5
def qUN (most:Nat)(i:Int):Option Nat:=if 0<=i∧i<=(most:Int) then some i.toNat else none
def qQY (d most:Nat)(x:Option SV)(K:Nat->zEY R):zEY R:=match x with
 | none=>K d
 | some v=>(match asI v with
   | some (_,i)=>.bind (qUN most i) K
   | none=>.fail)
theorem vJ {d most:Nat}{x:Option SV}{K:Nat->zEY R}(e:(qQY d most x K).run=some r):∃ n,bnd d most (x.map SV.enc)=some n∧(n=d∨n<=most)∧(K n).run=some r:=by
 unfold qQY at e;split at e
 ·exact⟨d,rfl,.inl rfl,e⟩
 ·rename_i v;split at e
  ·rename_i k i hi;have e_:=run_bind e;clear e;obtain⟨n,hn,e⟩:=e_;refine⟨n,?_,.inr ?_,e⟩
   ·simp only[zOW,yF hi,fvv,bnd];exact hn
   ·unfold qUN at hn;split at hn
    ·cases hn;omega
    ·cases hn
  ·cases e
def qVY (P:Program)(t:TypeId)(x:SV)(lo hi:Option SV)(h:SH)(K:SV->zEY R):zEY R:=match x with
 | .d (.list el u) xs=>(match zS P t,szT P el with
   | some el',some s=>cond (Nat.beq el' el&&Nat.beq s u.w) (qQY (List.length xs) (List.length xs) hi fun b=>qQY 0 b lo fun a=>K (.d (.list el u) ((List.drop a xs).take (b - a)))) .fail
   | _,_=>.fail)
 | .c (.slice none 0 0)=>(match zS P t with
   | some el=>cond (szT P el).isSome (qQY 0 0 hi fun _=>qQY 0 0 lo fun _=>K x) .fail
   | none=>.fail)
 | .own k g n=>(match zS P t,slk k h.l with
   | some el',some (.list el _ g' _ u _)=>cond (Nat.beq el' el&&Nat.beq g g') (qQY n n hi fun b=>qQY 0 b lo fun a =>
      .ite (Nat.beq a 0) (K (.sl k g n 0 b)) (.ite (Nat.beq a b) (K (.d (.list el u) [])) (K (.sl k g n a (b - a))))) .fail
   | _,_=>.fail)
 | .sl k g n o m=>(match zS P t,slk k h.l with
   | some el',some (.list el _ g' _ u _)=>cond (Nat.beq el' el&&Nat.beq g g') (qQY m m hi fun b=>qQY 0 b lo fun a =>
      .ite (Nat.beq a 0) (K (.sl k g n o b)) (.ite (Nat.beq a b) (K (.d (.list el u) [])) (K (.sl k g n (o+a) (b - a))))) .fail
   | _,_=>.fail)
 | .ref k 0 w=>(match qPP P t,slk k h.l with
   | some (m,el2),some (.spc v (.arr el _ xs))=>(match szT P el2 with
     | some 1=>cond (!Nat.beq el2 el&&Nat.beq m w) (.ite (Nat.beq w (List.length xs)) (qQY m m hi fun b=>qQY 0 b lo fun a=>.ite (Nat.beq a 0&&Nat.beq b m) (K (.asl el2 k v m)) .fail) .fail) .fail
     | _=>.fail)
   | _,_=>.fail)
 | _=>.fail
theorem qXB {t:TypeId}{lo hi:Option SV}{K:SV->zEY R}(ho:OkH P h)(hx:x.ok h)(e:(qVY P t x lo hi h K).run=some r) :
 ∃ v,wL P t x.enc (lo.map SV.enc) (hi.map SV.enc) (qD h.l)=some v.enc∧v.ok h∧(K v).run=some r:=by
 unfold qVY at e
 have key:∀ {k g n o m w:Nat} {gr:Bool} {el el':TypeId} {u:Ty} {xs:List u.sem},slk k h.l=some (.list el gr g w u xs)->n=xs.length->o+m<=n->g < h.next->zS P t=some el'->Nat.beq el' el=true ->
  ∀ a b,bnd m m (hi.map SV.enc)=some b->b<=m->bnd 0 b (lo.map SV.enc)=some a->a<=b ->
  (zEY.ite (Nat.beq a 0) (K (.sl k g n o b)) (.ite (Nat.beq a b) (K (.d (.list el u) [])) (K (.sl k g n (o+a) (b - a))))).run=some r ->
  ∃ v,wL P t (.own k n o m) (lo.map SV.enc) (hi.map SV.enc) (qD h.l)=some v.enc∧v.ok h∧(K v).run=some r:=by
  intro k g n o m w gr el el' u xs hk hn hom hg hel hbe a b hb hbm ha hab e;have hl:=ho.list _ _ _ _ _ _ _ hk
  have pre:wL P t (.own k n o m) (lo.map SV.enc) (hi.map SV.enc) (qD h.l)=some (cond (Nat.beq a 0) (.own k n o b) (cond (Nat.beq a b) (.f (.l el 0 [])) (.own k n (o+a) (b - a)))):=by
   simp only[wL,zP hk,hel];rw[show (SO.list el gr g w u xs).enc.el=el from rfl,hl.2.1,hb];simp only[ha,qV,hn,aC,hbe,zPG,cond_true]
  have hsl:qW7 h k g n:=⟨hg,fun el2 gr2 w2 t2 xs2 hk2=>by
   rw[hk] at hk2;cases hk2
   exact hn⟩
  rw[pre]
  rcases run_ite e with ⟨z,e⟩ | ⟨z,e⟩
  ·exact⟨_,by rw[z];simp[SV.enc],by simp only[SV.ok];exact⟨hsl,by omega⟩,e⟩
  ·rcases run_ite e with ⟨z2,e⟩ | ⟨z2,e⟩
   ·exact⟨_,by rw[z,z2];simp[SV.enc,Ty.fv],by simp[SV.ok],e⟩
   ·exact⟨_,by rw[z,z2];simp[SV.enc],by simp only[SV.ok];exact⟨hsl,by omega⟩,e⟩
 split at e
 ·rename_i el u xs;split at e
  ·rename_i el' s hel hs;have e_:=qG e;clear e;obtain⟨c1,e⟩:=e_;rw[zOG] at c1;have hw:s=u.w:=zOH c1.2;have he:el'=el:=zOH c1.1;subst hw he;obtain⟨b,hb,hb2,e1⟩:=vJ e;obtain⟨a,ha,ha2,e2⟩:=vJ e1;have hbl:b<=xs.length:=by rcases hb2 with q | q <;> omega
   have hab:a<=b:=by rcases ha2 with q | q <;> omega
   refine⟨_,?_,by simp[SV.ok],e2⟩;simp only[SV.enc,Ty.fv,wL,hel,hs,hb,ha,aC,zW,zPG,cond_true];rw[gH,gI]
   cases hq:Nat.beq a b with
   | true =>
     have:a=b:=zOH hq;subst this;simp
   | false =>
     simp only[cond_false,zPQ,zQM];rw[zP7 (by omega)]
  ·cases e
 ·split at e
  ·rename_i el hel;have e_:=qG e;clear e;obtain⟨c1,e⟩:=e_;obtain⟨b,hb,hb2,e1⟩:=vJ e;obtain⟨a,ha,ha2,e2⟩:=vJ e1;refine⟨_,?_,by simp[SV.ok],e2⟩;have hb':bnd 0 0 (hi.map SV.enc)=some b:=hb;simp only[SV.enc,fvv,wL,hel,hb',ha,c1,cond_true]
  ·cases e
 ·rename_i k g n;split at e
  ·rename_i el' el gr g' w u xs hel hk;have e_:=qG e;clear e;obtain⟨c1,e⟩:=e_;rw[zOG] at c1;have hg:g=g':=zOH c1.2;subst hg;obtain⟨b,hb,hb2,e1⟩:=vJ e;obtain⟨a,ha,ha2,e2⟩:=vJ e1;simp only[SV.ok] at hx;refine key hk (hx.2 _ _ _ _ _ hk) (by omega) hx.1 hel c1.1 a b hb (by rcases hb2 with q | q <;> omega) ha (by rcases ha2 with q | q <;> omega) ?_;rw[zPF];exact e2
  ·cases e
 ·rename_i k g n o m;split at e
  ·rename_i el' el gr g' w u xs hel hk;have e_:=qG e;clear e;obtain⟨c1,e⟩:=e_;rw[zOG] at c1;have hg:g=g':=zOH c1.2;subst hg;obtain⟨b,hb,hb2,e1⟩:=vJ e;obtain⟨a,ha,ha2,e2⟩:=vJ e1;simp only[SV.ok] at hx;exact key hk (hx.1.2 _ _ _ _ _ hk) hx.2 hx.1.1 hel c1.1 a b hb (by rcases hb2 with q | q <;> omega) ha (by rcases ha2 with q | q <;> omega) e2
  ·cases e
 ·rename_i k w;split at e
  ·rename_i m el2 v el ik xs ha hk;split at e
   ·rename_i hs;obtain⟨c1,e0⟩:=qG e;rw[zOG,zO3] at c1;have hmw:=zOH c1.2;subst hmw
    rcases run_ite e0 with ⟨z,e1⟩ | ⟨_,e1⟩
    ·obtain⟨b,hb,_,e2⟩:=vJ e1;obtain⟨a,hal,_,e3⟩:=vJ e2
     rcases run_ite e3 with ⟨z2,e4⟩ | ⟨_,e4⟩
     ·rw[zOG] at z2;have h0:=zOH z2.1;have h1:=zOH z2.2;subst h0 h1;refine⟨_,?_,?_,e4⟩
      ·simp only[SV.enc,wL,zP hk,ha,hs,hb,hal];show cond (Nat.beq el2 el&&_) _ (cond (Nat.beq b (xs.map fun x=>fvv (.int ik x)).length&&(Nat.beq b b&&(Nat.beq 0 0&&(!false&&(Nat.beq 0 0&&Nat.beq b b))))) _ _)=_;rw[c1.1,zOS,z];simp only[Bool.false_and,cond_false,aC,zPG,Bool.not_false,cond_true]
      ·simp only[SV.ok];refine⟨ho.ver _ _ hk,fun ob hob _=>?_⟩;rw[hk] at hob;cases hob;exact⟨_,_,_,rfl,zOH z⟩
     ·cases e4
    ·cases e1
   ·cases e
  ·cases e
 ·cases e
end
end Go.Sv
namespace Go.Sv
open Go.Idl
variable [Gc]
variable {P:Program}{t t2:TypeId}{a b:ByteArray}{ph:PHp}
theorem bX {v:Value}(h3:qH6 v=true)(h4:ofC v=fvv v):qRR (qB7 H00 v)=some (fvv v):=by
 unfold qB7;rw[h3];show some (ofC v)=_;rw[h4]
theorem qNK {op:BinOp}{v:Value}(h1:zFE P (cop (.binOp op t (.const (.string a)) (.const (.string b)) t2)) op t (.string a) (.string b) [] H00=kL P (cop (.binOp op t (.const (.string a)) (.const (.string b)) t2)) [] H00)
 (h2:z8 P (execOp (Env.val []) (cop (.binOp op t (.const (.string a)) (.const (.string b)) t2)))=some (.value v)) (h3:qH6 v=true) (h4:ofC v=fvv v):jT P op t t2 (fvv (.string a)) (fvv (.string b)) ph=some (fvv v):=by
 unfold jT;simp only[fvv,pl,q8O,cond_false];show qRR (zFE P _ op t (.string a) (.string b) [] H00)=_;rw[h1];unfold kL;have:zQ (kS (Env.val []) (cop (.binOp op t (.const (.string a)) (.const (.string b)) t2)).op.operands.toList)=true:=rfl;rw[if_pos this,h2];exact bX h3 h4
theorem q5J (hl:a.size+b.size<=9223372036854775807):jT P .add t t2 (fvv (.string a)) (fvv (.string b)) ph=some (fvv (.string (a++b))):=by
 refine qNK rfl ?_ rfl rfl;have hm:IntKind.i64.max=9223372036854775807:=rfl;have:¬ (((a.size+b.size:Nat):Int) > IntKind.i64.max):=by rw[hm];omega
 show z8 P (do eqGuard .add t (.const (.string a)) (.const (.string b)) (.string a) (.string b);let v <- Op.stringOp .add a b;pure (Next.value v))=_;unfold Op.stringOp;simp only[this,if_false];rfl
theorem q5D:jT P .eql t t2 (fvv (.string a)) (fvv (.string b)) ph=some (fvv (.bool (a.toList==b.toList))):=qNK rfl rfl rfl rfl
theorem q4Y:jT P .neq t t2 (fvv (.string a)) (fvv (.string b)) ph=some (fvv (.bool (!(a.toList==b.toList)))):=qNK rfl rfl rfl rfl
theorem dB {α β:Type}(s:Sem α)(g:α->Sem β):z8 P (s >>= g)=(z8 P s).bind fun a=>z8 P (g a):=kF g s
theorem dP {α:Type}(a:α):z8 P (pure a:Sem α)=some a:=rfl
theorem q2L {ts:Array TypeId}(hs:qY0 P ts=true):∃ t,ts[0]?=some t∧P.underlying t=some .string:=by
 unfold qY0 at hs
 cases h0:ts[0]? with
 | none=>rw[h0] at hs;cases hs
 | some t =>
   rw[h0] at hs;simp only[zO2] at hs;split at hs
   ·rename_i hq;exact⟨t,rfl,hq⟩
   ·cases hs
theorem zBN {t:TypeId}{ts:Array TypeId}{ty:TypeId}(h0:ts[0]?=some t)(hu:P.underlying t=some .string):z8 P (Go.Builtin.len_ ts ty #[.string a])=some (goInt a.size):=by
 unfold Go.Builtin.len_;simp only[h0,dB,zZ,hu,zO2,zQV,zO9];rfl
theorem qOH {x:Operand}{ts:Array TypeId}{ty:TypeId}{env:Env}(hs:qY0 P ts=true)(hx:env.val x=.string a) :
 qRR (kL P (cop (.call ⟨.builtin .len,#[x],ts⟩) ty) env H00)=some (fvv (.int .i64 (a.size:Int))):=by
 have h2:kS env.val (cop (.call ⟨.builtin .len,#[x],ts⟩) ty).op.operands.toList=[env.val x]:=rfl;unfold kL;rw[h2];obtain⟨t,h0,hu⟩:=q2L hs;have hp:zQ [env.val x]=true:=by rw[hx];rfl
 rw[if_pos hp]
 have he:z8 P (execOp env.val (cop (.call ⟨.builtin .len,#[x],ts⟩) ty))=some (.value (goInt a.size)):=by
  simp only[cop,execOp,resolve,List.map_toArray,zOZ,zQQ,hx];show z8 P (do let v <- Go.Builtin.len_ ts ty #[.string a];pure (Next.value v))=_;rw[dB,zBN h0 hu];rfl
 rw[he];exact bX rfl rfl
def q54 (s:ByteArray)(i:Int):Option Int:=if 0<=i then (s[i.toNat]?).map fun b=>(b.toNat:Int) else none
theorem q0X {t:TypeId}{s:ByteArray}{k:IntKind}{i c:Int}{ty:TypeId}(hu:P.underlying t=some .string)(h:q54 s i=some c):qMD P (.index t (.const (.string s)) (.const (.int k i))) ty=some (fvv (.int .u8 c)):=by
 unfold qMD kL;have hp:zQ (kS (Env.val []) (cop (.index t (.const (.string s)) (.const (.int k i))) ty).op.operands.toList)=true:=rfl;rw[if_pos hp]
 have he:z8 P (execOp (Env.val []) (cop (.index t (.const (.string s)) (.const (.int k i))) ty))=some (.value (.int .u8 c)):=by
  show z8 P (do let v <- Instr.index t (.string s) (.int k i);pure (Next.value v))=_;unfold q54 at h;split at h
  ·rename_i hc;obtain⟨b,hb,rfl⟩:=zOR.1 h;unfold Instr.index;simp only[dB,zZ,hu,zO2];have h0:z8 P (asIntOf (.int k i))=some (k,i):=rfl;rw[h0];simp only[zO2,if_pos hc,hb,dP]
  ·cases h
 rw[he];exact bX rfl rfl
theorem tO {k:IntKind}{i:Int}{y n:Nat}{code:BoundsCode}(h:(if 0<=i∧i<=(y:Int) then some i.toNat else none)=some n):z8 P (Instr.sliceBound (.int k i) y code)=some n:=by
 unfold Instr.sliceBound;rw[dB];have h0:z8 P (asIntOf (.int k i))=some (k,i):=rfl;rw[h0];simp only[zO2];split at h
 ·rename_i hc;rw[if_pos hc];cases h;rfl
 ·cases h
theorem qTV {d most n:Nat}{x:Option PV}(h:bnd d most x=some n):(x=none∧n=d)∨∃ k i,x=some (fvv (.int k i))∧(if 0<=i∧i<=(most:Int) then some i.toNat else none)=some n:=by
 unfold bnd at h;split at h
 ·cases h;exact .inl ⟨rfl,rfl⟩
 ·rename_i k i;exact .inr ⟨k,i,rfl,h⟩
 ·cases h
theorem q1V {t:TypeId}{s:ByteArray}{lo hi:Option Operand}{l u:Nat}{env:List PV}{ty:TypeId}(hu:P.underlying t=some .string)(h1:bnd s.size s.size (hi.map (qK env))=some u)(h2:bnd 0 u (lo.map (qK env))=some l) :
 qMD P (.slice t (.const (.string s)) (lo.map fun a=>.const ((pl (qK env a)).getD undef)) (hi.map fun a=>.const ((pl (qK env a)).getD undef)) none) ty=some (fvv (.string (s.extract l u))):=by
 have opt:∀ {o:Option Operand} {d most n:Nat},bnd d most (o.map (qK env))=some n->(o=none∧n=d)∨∃ k i,(o.map fun a=>Operand.const ((pl (qK env a)).getD undef))=some (.const (.int k i))∧(if 0<=i∧i<=(most:Int) then some i.toNat else none)=some n:=fun {o d most n} h=>by
  rcases qTV h with ⟨q,e⟩ | ⟨k,i,q,e⟩
  ·cases o with
   | none=>exact .inl ⟨rfl,e⟩
   | some a=>cases q
  ·cases o with
   | none=>cases q
   | some a =>
     have q:qK env a=fvv (.int k i):=by simpa using q
     exact .inr ⟨k,i,by simp[q,fvv,pl],e⟩
 unfold qMD kL
 have hk:∀ (lo' hi':Option Operand) (vl vh:Option Value),lo'.map (Env.val [])=vl->hi'.map (Env.val [])=vh->zQ (kS (Env.val []) (cop (.slice t (.const (.string s)) lo' hi' none) ty).op.operands.toList)=true ->
  z8 P (Instr.sliceBounds false s.size s.size vl vh none)=some (l,u,s.size)->qRR (if zQ (kS (Env.val []) (cop (.slice t (.const (.string s)) lo' hi' none) ty).op.operands.toList)=true then qF7 H00 (z8 P (execOp (Env.val []) (cop (.slice t (.const (.string s)) lo' hi' none) ty))) else none)=some (fvv (.string (s.extract l u))):=by
  intro lo' hi' vl vh e1 e2 hp hb;rw[if_pos hp]
  have he:z8 P (execOp (Env.val []) (cop (.slice t (.const (.string s)) lo' hi' none) ty))=some (.value (.string (s.extract l u))):=by
   show z8 P (do let v <- Instr.sliceAt t (.string s) (lo'.map (Env.val [])) (hi'.map (Env.val [])) none;pure (Next.value v))=_;rw[e1,e2];unfold Instr.sliceAt;simp only[dB,zZ,hu,zO2];unfold Instr.slice;simp only[dB,zZ,hu,zO2];simp only[zSY,zQX,if_false,dB,hb,zO2,dP]
  rw[he];exact bX rfl rfl
 have hB:∀ (vl vh:Option Value),(vh=none∧u=s.size∨∃ k i,vh=some (.int k i)∧(if 0<=i∧i<=(s.size:Int) then some i.toNat else none)=some u)->(vl=none∧l=0∨∃ k i,vl=some (.int k i)∧(if 0<=i∧i<=(u:Int) then some i.toNat else none)=some l) ->
  z8 P (Instr.sliceBounds false s.size s.size vl vh none)=some (l,u,s.size):=by
  intro vl vh a b;unfold Instr.sliceBounds;rcases a with ⟨rfl,rfl⟩ | ⟨k,i,rfl,ha⟩ <;> rcases b with ⟨rfl,rfl⟩ | ⟨k',i',rfl,hb⟩ <;> simp only[dB,dP,zO2,zSY,zQX,if_false]
  ·rw[tO hb];rfl
  ·rw[tO ha];rfl
  ·rw[tO ha];simp only[zO2];rw[tO hb];rfl
 rcases opt h1 with ⟨rfl,e1⟩ | ⟨k,i,e1,f1⟩ <;> rcases opt h2 with ⟨rfl,e2⟩ | ⟨k',i',e2,f2⟩
 ·exact hk none none none none rfl rfl rfl (hB _ _ (.inl ⟨rfl,e1⟩) (.inl ⟨rfl,e2⟩))
 ·rw[e2];exact hk _ none _ none rfl rfl rfl (hB _ _ (.inl ⟨rfl,e1⟩) (.inr ⟨k',i',rfl,f2⟩))
 ·rw[e1];exact hk none _ none _ rfl rfl rfl (hB _ _ (.inr ⟨k,i,rfl,f1⟩) (.inl ⟨rfl,e2⟩))
 ·rw[e1,e2];exact hk _ _ _ _ rfl rfl rfl (hB _ _ (.inr ⟨k,i,rfl,f1⟩) (.inr ⟨k',i',rfl,f2⟩))
theorem q49 {s d:TypeId}{k k':IntKind}{x:Int}{u:TypeDesc}(hs:P.underlying s=some u)(hd:P.underlying d=some (.int k')):bG P (fun a=>.convert s d a) (fvv (.int k x))=some (fvv (.int k' (k'.wrap x))):=by
 have hl:pl (fvv (.int k x))=some (.int k x):=rfl;unfold bG;rw[hl];unfold qMD kL;have hp:zQ (kS (Env.val []) (cop (.convert s d (.const (.int k x)))).op.operands.toList)=true:=rfl;simp only[hp,if_true]
 have he:z8 P (execOp (Env.val []) (cop (.convert s d (.const (.int k x)))))=some (.value (.int k' (k'.wrap x))):=by
  show z8 P (do let v <- convert s d (.int k x);pure (Next.value v))=_;unfold convert;simp only[dB,zZ,hs,hd,zO2];rfl
 rw[he];exact bX rfl rfl
theorem q0G {s d:TypeId}{x:ByteArray}{u:TypeDesc}(hs:P.underlying s=some u)(hd:P.underlying d=some .string):bG P (fun a=>.convert s d a) (fvv (.string x))=some (fvv (.string x)):=by
 have hl:pl (fvv (.string x))=some (.string x):=rfl;unfold bG;rw[hl];unfold qMD kL;have hp:zQ (kS (Env.val []) (cop (.convert s d (.const (.string x)))).op.operands.toList)=true:=rfl;simp only[hp,if_true]
 have he:z8 P (execOp (Env.val []) (cop (.convert s d (.const (.string x)))))=some (.value (.string x)):=by
  show z8 P (do let v <- convert s d (.string x);pure (Next.value v))=_;unfold convert;simp only[dB,zZ,hs,hd,zO2];cases u <;> rfl
 rw[he];exact bX rfl rfl
end Go.Sv
namespace Go.Sv
open Go.Idl
noncomputable section
variable [Gc]
variable [Yl]
variable {P:Program}{h:SH}{R:Type}{r:R}
def qD7:SV->Option Value
 | .d (.int k) x=>some (.int k x)
 | .d .bool x=>some (.bool x)
 | .d .str x=>some (.string x)
 | .c v=>some v
 | _=>none
theorem rY {v:SV}{a:Value}(e:qD7 v=some a):v.enc=fvv a:=by
 unfold qD7 at e;split at e <;> cases e <;> simp[SV.enc,Ty.fv,fvv]
def qGC:List SV->Option (List Value)
 | []=>some []
 | v::l=>match qD7 v,qGC l with
   | some a,some b=>some (a::b)
   | _,_=>none
def mD:SV->Option Value
 | .agg l=>(match qGC l with
   | some vs=>some (.agg vs.toArray)
   | none=>none)
 | v=>qD7 v
theorem qEM:∀ {l:List SV} {vs:List Value},qGC l=some vs->qJ8 (qB l)=some vs
 | [],vs,e=>by cases e;simp[qB,qJ8]
 | v::l,vs,e=>by
   unfold qGC at e;split at e
   ·rename_i a b ha hb;cases e;simp only[qB,rY ha,fvv,qJ8,pl1,qEM hb]
   ·cases e
theorem u7 {v:SV}{a:Value}(e:mD v=some a):pl v.enc=some a:=by
 unfold mD at e;split at e
 ·rename_i l;split at e
  ·rename_i vs hvs;cases e;simp only[SV.enc,pl,qEM hvs]
  ·cases e
 ·rw[rY e];rfl
def zD2 (op:BinOp)(a b:ByteArray)(K:SV->zEY R)(F:zEY R):zEY R:=match op with
 | .add=>.ite (Nat.ble (a.size+b.size) 9223372036854775807) (K (.d .str (a++b))) .fail
 | .eql=>K (.d .bool (a.toList==b.toList))
 | .neq=>K (.d .bool (!(a.toList==b.toList)))
 | _=>F
def qOT (P:Program)(t:TypeId):Bool:=match P.underlying t with
 | some .string=>true
 | _=>false
omit [Yl] in
theorem qDU {t:TypeId}(e:qOT P t=true):P.underlying t=some .string:=by
 unfold qOT at e;split at e
 ·assumption
 ·cases e
def qNT (P:Program)(t:TypeId)(s:ByteArray)(ix:SV)(K:SV->zEY R):zEY R:=match asI ix with
 | some (_,i)=>cond (qOT P t) (.bind (q54 s i) fun c=>K (.d (.int .u8) c)) .fail
 | none=>.fail
def qW6 (P:Program)(t:TypeId)(s:ByteArray)(lo hi:Option SV)(K:SV->zEY R):zEY R :=
 cond (qOT P t) (qQY s.size s.size hi fun b=>qQY 0 b lo fun a=>K (.d .str (s.extract a b))) .fail
def qZT (P:Program)(s d:TypeId)(x:SV)(K:SV->zEY R)(F:zEY R):zEY R:=match P.underlying s,P.underlying d with
 | some _,some (.int k')=>(match asI x with
   | some (_,a)=>K (.d (.int k') (k'.wrap a))
   | none=>F)
 | some _,some .string=>(match asS x with
   | some a=>K (.d .str a)
   | none=>F)
 | _,_=>F
def Ty.vals:(t:Ty)->List Value->Option (t.sem×List Value)
 | .int k,.int k' x::l=>cond (decide (k'=k)) (some (x,l)) none
 | .bool,.bool x::l=>some (x,l)
 | .str,.string x::l=>some (x,l)
 | .unit,l=>some ((),l)
 | .pair a b,l=>match a.vals l with
   | some (x,l1)=>(match b.vals l1 with
     | some (y,l2)=>some ((x,y),l2)
     | none=>none)
   | none=>none
 | _,_=>none
def Ty.ofV (t:Ty)(v:Value):Option t.sem:=cond t.one (match t.vals [v] with
 | some (x,[])=>some x
 | _=>none) (match v with
 | .agg a=>(match t.vals a.toList with
   | some (x,[])=>some x
   | _=>none)
 | _=>none)
def q8A (t:Ty)(x:t.sem):SV:=cond t.one (.d t x) (.agg (t.svs x))
omit [Yl] in
theorem qWC (t:Ty)(x:t.sem):(q8A t x).ok h:=by
 unfold q8A
 cases t.one with
 | true=>simp[SV.ok]
 | false=>simp only[cond_false,SV.ok];exact qDR t x
omit [Yl] in
theorem qKH:∀ {a b:List Value},jZ okC a=true->jZ okC b=true->jZ okC (a++b)=true
 | [],_,_,h=>h
 | x::a,b,h1,h2=>by
   rw[vG,zOG] at h1;rw[zQN,vG,h1.1,qKH h1.2 h2];rfl
omit [Yl] in
theorem cZ:∀ {t:Ty} {l l':List Value} {x:t.sem},t.vals l=some (x,l')->∃ us,l=us++l'∧jZ okC us=true∧kS fvv us=(t.cells x).map PV.f
 | .int k,l,l',x,e=>by
   cases l with
   | nil=>cases e
   | cons v l =>
     cases v <;> try (cases e;done)
     rename_i k' y;have e:cond (decide (k'=k)) (some ((y:Int),l)) none=some (x,l'):=e
     cases hk:decide (k'=k) with
     | false=>rw[hk] at e;cases e
     | true =>
       rw[hk] at e;cases e;have:k'=k:=by simpa using hk
       subst this;exact⟨[.int k' x],rfl,rfl,rfl⟩
 | .bool,l,l',x,e=>by
   cases l with
   | nil=>cases e
   | cons v l =>
     cases v <;> try (cases e;done)
     cases e;exact⟨[.bool x],rfl,rfl,rfl⟩
 | .str,l,l',x,e=>by
   cases l with
   | nil=>cases e
   | cons v l =>
     cases v <;> try (cases e;done)
     cases e;exact⟨[.string x],rfl,rfl,rfl⟩
 | .unit,l,l',x,e=>by
   have e:some ((),l)=some ((),l'):=by cases l <;> exact e
   cases e;exact⟨[],rfl,rfl,rfl⟩
 | .list _ _,l,l',x,e=>by cases l <;> cases e
 | .raw,l,l',x,e=>by cases l <;> cases e
 | .ol _ _,l,l',x,e=>by cases l <;> cases e
 | .nif,l,l',x,e=>by cases l <;> cases e
 | .pair a b,l,l',x,e=>by
   have e:(match a.vals l with
    | some (x,l1)=>(match b.vals l1 with
      | some (y,l2)=>some ((x,y),l2)
      | none=>none)
    | none=>none)=some (x,l'):=by cases l <;> exact e
   split at e
   ·rename_i x1 l1 h1;split at e
    ·rename_i y l2 h2;cases e;obtain⟨us,rfl,u1,u2⟩:=cZ h1;obtain⟨ws,rfl,w1,w2⟩:=cZ h2;refine⟨us++ws,by rw[zPE],?_,?_⟩
     ·exact qKH u1 w1
     ·show _=(a.cells x1++b.cells y).map PV.f;rw[xD] at u2 w2 ⊢;rw[zPS,zPS,u2,w2]
    ·cases e
   ·cases e
theorem qUS {t:Ty}{v:Value}{x:t.sem}(e:t.ofV v=some x):ofC v=(q8A t x).enc:=by
 unfold Ty.ofV at e;unfold q8A
 cases ht:t.one with
 | true =>
   rw[ht] at e;simp only[cond_true] at e ⊢;split at e
   ·rename_i y hy;cases e;obtain⟨us,h1,h2,h3⟩:=cZ hy;rw[zQB] at h1;subst h1;rw[Ty.cells_one ht] at h3
    have h3:fvv v=.f (t.fv x):=by
     have:kS fvv [v]=[fvv v]:=rfl;rw[this] at h3;simpa using h3
    have h2:okC v=true:=by
     rw[vG,zOG] at h2;exact h2.1
    have:ofC v=fvv v:=by
     unfold okC at h2;rw[zOG] at h2
     cases v <;> first | (exact absurd h2.2 (by decide)) | skip
     all_goals first | (show q59 _=_;unfold q59 okC;simp[h2.1,h2.2]) | (simp[oneCell] at h2)
    rw[this,h3];simp[SV.enc]
   ·cases e
 | false =>
   rw[ht] at e;simp only[cond_false] at e ⊢;split at e
   ·rename_i a;split at e
    ·rename_i y hy;cases e;obtain⟨us,h1,h2,h3⟩:=cZ hy;rw[zQB] at h1;show cond (jZ okC a.toList) (PV.agg (kS fvv a.toList)) .unk=_;rw[h1,h2,h3];simp only[cond_true,SV.enc,gX]
    ·cases e
   ·cases e
def smp (x:SV)(h:SH):Option (Nat×List (Value×Value)):=match x with
 | .mp k=>(match slk k h.l with
   | some (.spc _ (.map es))=>some (k,es)
   | _=>none)
 | _=>none
omit [Yl] in
theorem aT:∀ (n:Nat) (es:List (Value×Value)) (i:Nat),(kC n es)[i]?=(es[i]?).map fun p=>(⟨p.1,p.2,n+i⟩:MapEntry)
 | n,[],i=>by simp[kC]
 | n,p::es,0=>by simp[kC]
 | n,p::es,i+1=>by
   show (kC (n+1) es)[i]?=_;rw[aT (n+1) es i];have:n+1+i=n+(i+1):=by omega
   rw[this];simp
omit [Yl] in
theorem qK3:∀ (n:Nat) (es:List (Value×Value)),(kC n es).length=es.length
 | n,[]=>rfl
 | n,p::es=>by
   show (kC (n+1) es).length+1=_;rw[qK3,zO4]
omit [Yl] in
theorem qJ6:∀ (n:Nat) (es:List (Value×Value)) (k v:Value),kC n (es++[(k,v)])=kC n es++[⟨k,v,n+es.length⟩]
 | n,[],k,v=>rfl
 | n,p::es,k,v=>by
   show _::kC (n+1) (es++[(k,v)])=_;rw[qJ6 (n+1) es k v];show _=_::(kC (n+1) es++_);rw[zO4];have:n+1+es.length=n+(es.length+1):=by omega
   rw[this]
omit [Yl] in
theorem qWV (es:List (Value×Value))(i:Nat)(k v:Value)(f:MapEntry->MapEntry)(hf:∀ p,es[i]?=some p->f ⟨p.1,p.2,i⟩=⟨k,v,i⟩):kC 0 (es.set i (k,v))=(kC 0 es).modify i f:=by
 apply zP2;intro j;rw[aT,List.getElem?_modify,aT,zPA,zPF];by_cases hij:i=j
 ·subst hij;rw[if_pos rfl];simp only[if_true]
  cases he:es[i]? with
  | none =>
    have:¬ i < es.length:=fun hl=>by rw[zOL hl] at he;cases he
    rw[if_neg this];rfl
  | some p =>
    have:=(zOO.1 he).1;rw[if_pos this];simp[hf p he]
 ·rw[if_neg hij];simp only[if_neg hij];cases es[j]? <;> rfl
theorem zAL {x:SV}{k:Nat}{es:List (Value×Value)}(hs:spec P 1000000001=true)(e:smp x h=some (k,es)):sU P x.enc (qD h.l)=some (k,(SpO.map es).enc,es.length,kC 0 es)∧∃ w,slk k h.l=some (.spc w (.map es)):=by
 unfold smp at e;split at e
 ·rename_i k';split at e
  ·rename_i w es' hk;cases e;refine⟨?_,w,hk⟩;simp only[SV.enc,sU,zP hk]
   show cond (spec P 1000000001&&Nat.beq 1000000001 1000000001) (match mapOf (wU es.length (kC 0 es)) with
    | some (c,es')=>some (k,(SO.spc w (SpO.map es)).enc,c,es')
    | none=>none) none=_
   rw[hs,qQP];rfl
  ·cases e
 ·cases e
def q5M (P:Program)(kt:TypeId)(k:Value)(es:List (Value×Value)):Option Bool:=(eY P kt k (kC 0 es)).map Option.isSome
def q7S (P:Program)(kt:TypeId)(t:Ty)(k:Value)(es:List (Value×Value)):Option t.sem:=match eY P kt k (kC 0 es) with
 | some (some i)=>(match es[i]? with
   | some p=>t.ofV p.2
   | none=>none)
 | _=>none
def q7F (ok:Bool)(t:Ty)(x:t.sem)(b:Bool):SV:=cond ok (.tup [q8A t x,.c (.bool b)]) (q8A t x)
theorem qN9 {ok b:Bool}{t:Ty}{x:t.sem}{v:Value}(e:t.ofV v=some x):q34 ok v b=(q7F ok t x b).enc:=by
 unfold q34 q7F
 cases ok with
 | true=>simp[qUS e,SV.enc,qB]
 | false=>exact qUS e
omit [Yl] in
theorem qUO {ok b:Bool}{t:Ty}{x:t.sem}:(q7F ok t x b).ok h:=by
 unfold q7F
 cases ok with
 | true=>simp only[cond_true,SV.ok,okL,and_true];exact qWC t x
 | false=>exact qWC t x
def qMX (P:Program)(t:TypeId)(m kx:SV)(ok:Bool)(h:SH)(K:SV->zEY R):zEY R:=match P.underlying t,smp m h,mD kx with
 | some (.map kt et),some (_,es),some kv=>(match qD3 P 8 et,gQ P et with
   | some vt,some z=>(match vt.ofV z with
     | some z0=>cond (spec P 1000000001&&yV z) (.bind (q5M P kt kv es) fun b=>.ite b (.bind (q7S P kt vt kv es) fun x=>K (q7F ok vt x true)) (K (q7F ok vt z0 false))) .fail
     | none=>.fail)
   | _,_=>.fail)
 | _,_,_=>.fail
theorem qSK {t:TypeId}{m kx:SV}{ok:Bool}{K:SV->zEY R}(e:(qMX P t m kx ok h K).run=some r):∃ v,uU P t m.enc kx.enc ok (qD h.l)=some v.enc∧v.ok h∧(K v).run=some r:=by
 unfold qMX at e;split at e
 case h_2=>cases e
 rename_i kt et k es kv hu hm hk;split at e
 case h_2=>cases e
 rename_i vt z hvt hz;split at e
 case h_2=>cases e
 rename_i z0 hz0;obtain⟨c,e1⟩:=qG e;rw[zOG] at c;obtain⟨b,hb,e2⟩:=run_bind e1;obtain⟨h1,w,h2⟩:=zAL c.1 hm
 have pre:uU P t m.enc kx.enc ok (qD h.l)=(match eY P kt kv (kC 0 es) with
  | some (some i)=>(match (kC 0 es)[i]? with
    | some e=>some (q34 ok e.val true)
    | none=>none)
  | some none=>some (q34 ok z false)
  | none=>none):=by
  unfold uU;rw[hu,h1,u7 hk];simp only[hz,c.2,cond_true];rfl
 rw[pre];unfold q5M at hb
 cases hf:eY P kt kv (kC 0 es) with
 | none=>rw[hf] at hb;cases hb
 | some o =>
   rw[hf] at hb
   cases o with
   | none =>
     cases hb;refine⟨_,by simp only[qN9 hz0],qUO,e2⟩
   | some i =>
     cases hb;obtain⟨x,hx,e3⟩:=run_bind (show (zEY.bind (q7S P kt vt kv es) fun x=>K (q7F ok vt x true)).run=some r from e2);unfold q7S at hx;rw[hf] at hx;simp only at hx;split at hx
     ·rename_i p hp;refine⟨_,?_,qUO,e3⟩;simp only[aT,hp,zOW,qN9 hx]
     ·cases hx
def q8N (P:Program)(kt:TypeId)(k v:Value)(es:List (Value×Value)):Option (List (Value×Value)):=match eY P kt k (kC 0 es) with
 | some (some i)=>(match es[i]? with
   | some p=>cond (Instr.sameBits 10000 p.1 k) (some (es.set i (k,v))) none
   | none=>none)
 | some none=>some (es++[(k,v)])
 | none=>none
def pW (P:Program)(t:TypeId)(m kx x:SV)(h:SH)(K:SV->SH->zEY R):zEY R:=match P.underlying t,smp m h,mD kx,mD x with
 | some (.map kt _),some (k,es),some kv,some xv=>cond (spec P 1000000001&&zK xv) (.bind (q8N P kt kv xv es) fun es'=>K (.tup []) (h.put k fun v=>.spc v (.map es'))) .fail
 | _,_,_,_=>.fail
theorem qHK {k:Nat}{es es':List (Value×Value)}{w:Nat}(ho:OkH P h)(hk:slk k h.l=some (.spc w (.map es))):Keep h (h.put k fun v=>.spc v (.map es'))∧OkH P (h.put k fun v=>.spc v (.map es')) ∧
 qD (h.put k fun v=>.spc v (.map es')).l=xW k { (SpO.map es).enc with cs:=wU es'.length (kC 0 es') } (qD h.l):=by
 have:=vO (f:=fun v=>.spc v (.map es')) ho hk rfl;exact⟨this.1,this.2,xQ k _ _⟩
theorem qHE {t:TypeId}{m kx x:SV}{K:SV->SH->zEY R}(ho:OkH P h)(e:(pW P t m kx x h K).run=some r) :
 ∃ h',jM P t m.enc kx.enc x.enc (qD h.l)=some (qD h'.l)∧Keep h h'∧OkH P h'∧(K (.tup []) h').run=some r:=by
 unfold pW at e;split at e
 case h_2=>cases e
 rename_i kt et k es kv xv hu hm hkv hxv;obtain⟨c,e1⟩:=qG e;rw[zOG] at c;obtain⟨es',hs,e2⟩:=run_bind e1;obtain⟨h1,w,h2⟩:=zAL c.1 hm;obtain⟨p1,p2,p3⟩:=qHK (es':=es') ho h2;refine⟨_,?_,p1,p2,e2⟩;unfold jM;rw[hu,h1,u7 hkv,u7 hxv,p3];simp only[c.2,cond_true];unfold q8N at hs
 cases hf:eY P kt kv (kC 0 es) with
 | none=>rw[hf] at hs;cases hs
 | some o =>
   rw[hf] at hs
   cases o with
   | none =>
     cases hs;simp only[qJ6,zO0,zO4,zSQ,zPF]
   | some i =>
     simp only at hs ⊢;split at hs
     ·rename_i p hp
      cases hb:Instr.sameBits 10000 p.1 kv with
      | false=>rw[hb] at hs;cases hs
      | true =>
        rw[hb] at hs;cases hs;simp only[aT,hp,zOW,hb,cond_true];rw[qWV es i kv xv (fun e=>{ e with key:=kv,val:=xv }) (fun _ _=>rfl),zPR]
     ·cases hs
def qOK (P:Program)(k:Nat)(h:SH)(K:SV->SH->zEY R):zEY R:=cond (spec P 1000000001) (K (.mp k) (h.new k fun v=>.spc v (.map []))) .fail
theorem qMA {k:Nat}{K:SV->SH->zEY R}(ho:OkH P h)(e:(qOK P k h K).run=some r):∃ v h',cO P k (qD h.l)=some (v.enc,qD h'.l)∧Post P h h' v∧(K v h').run=some r:=by
 obtain⟨c,e1⟩:=qG e;have hp:=xI (k:=k) (f:=fun v=>.spc v (.map [])) ho rfl;refine⟨_,_,?_,⟨hp.1,hp.2,by simp[SV.ok]⟩,e1⟩;unfold cO;rw[c];simp only[cond_true,qDG,SV.enc];rfl
def q51 (P:Program)(ts:Array TypeId)(x:SV)(h:SH):Option SV:=match smp x h with
 | some (_,es)=>cond (spec P 1000000001&&q84 P ts) (some (.d (.int .i64) ((List.length es:Nat):Int))) none
 | none=>none
theorem qZK {ts:Array TypeId}{x v:SV}(e:q51 P ts x h=some v):qC6 P ts x.enc (qD h.l)=some v.enc∧v.ok h:=by
 unfold q51 at e;split at e
 case h_2=>cases e
 rename_i k es hm
 cases hc:(spec P 1000000001&&q84 P ts) with
 | false=>rw[hc] at e;cases e
 | true =>
   rw[hc] at e;cases e;rw[zOG] at hc;refine⟨?_,by simp[SV.ok]⟩;unfold smp at hm;split at hm
   case h_2=>cases hm
   rename_i k';split at hm
   case h_2=>cases hm
   rename_i w es' hk;cases hm
   have h1:sG P (SV.enc (.mp k)) (qD h.l)=some (wU es.length (kC 0 es)):=by
    simp only[SV.enc,sG,zP hk];show cond (!false&&(spec P 1000000001&&Nat.beq 1000000001 1000000001)) (some (wU es.length (kC 0 es))) none=_;rw[hc.1];rfl
   unfold qC6;rw[h1];simp only[hc.2,cond_true,uZ,qK3];have:(3*es.length+1) / 3=es.length:=by omega
   rw[this];simp[SV.enc,Ty.fv,fvv]
end
end Go.Sv
namespace Go.Sv
open Go.Idl
variable {a:Int}{b:Bool}{env:List SV}{k:IntKind}{o:Oper}{op:BinOp}{ph:PHp}{s:ByteArray}{t t2 ty:TypeId}{ts:Array TypeId}{x y:SV}
noncomputable section
variable [Gc]
variable [Yl]
variable {P:Program}{h:SH}{R:Type}{r:R}
def q7R (k:IntKind):PV->Option Int
 | .f (.v (.int k' x))=>cond (decide (k'=k)) (some x) none
 | _=>none
def q7M:PV->Option Bool
 | .f (.v (.bool x))=>some x
 | _=>none
def q68:PV->Option ByteArray
 | .f (.v (.string x))=>some x
 | _=>none
def Ty.zLE:(t:Ty)->PV->Option t.sem
 | .int k,p=>q7R k p
 | .bool,p=>q7M p
 | .str,p=>q68 p
 | .raw,_=>none
 | .ol _ _,_=>none
 | .nif,_=>none
 | .unit,_=>none
 | .list _ _,_=>none
 | .pair _ _,_=>none
omit [Yl] in
theorem q7A:∀ {t:Ty} {p:PV} {x:t.sem},t.zLE p=some x->p=.f (t.fv x)
 | .int k,p,x,e=>by
   have e1:q7R k p=some x:=e;clear e;unfold q7R at e1;split at e1
   ·rename_i k' y;have e:=e1;clear e1
    cases hk:decide (k'=k) with
    | false=>rw[hk] at e;cases e
    | true =>
      rw[hk] at e;cases e;have:k'=k:=by simpa using hk
      subst this;rfl
   ·cases e1
 | .bool,p,x,e=>by
   have e1:q7M p=some x:=e;clear e;unfold q7M at e1;split at e1
   ·cases e1;rfl
   ·cases e1
 | .str,p,x,e=>by
   have e1:q68 p=some x:=e;clear e;unfold q68 at e1;split at e1
   ·cases e1;rfl
   ·cases e1
 | .unit,_,_,e=>by cases e
 | .list _ _,_,_,e=>by cases e
 | .pair _ _,_,_,e=>by cases e
 | .raw,_,_,e=>by cases e
 | .ol _ _,_,_,e=>by cases e
 | .nif,_,_,e=>by cases e
def Ty.zGT (t:Ty)(o:Option PV):Option t.sem:=o.bind t.zLE
theorem qOS {t:Ty}{o:Option PV}{x:t.sem}(e:t.zGT o=some x):o=some (SV.d t x).enc:=by
 obtain⟨p,h1,h2⟩:=zQI.1 e;rw[h1,q7A h2];simp[SV.enc]
def sint (op:BinOp)(k:IntKind)(a b:Int)(K:SV->zEY R)(F:zEY R):zEY R:=match op with
 | .lss=>K (.d .bool (decide (a < b)))
 | .leq=>K (.d .bool (decide (a<=b)))
 | .gtr=>K (.d .bool (decide (b < a)))
 | .geq=>K (.d .bool (decide (b<=a)))
 | .eql=>K (.d .bool (a==b))
 | .neq=>K (.d .bool (a != b))
 | .add=>K (.d (.int k) (k.wrap (a+b)))
 | .sub=>K (.d (.int k) (k.wrap (a - b)))
 | .mul=>K (.d (.int k) (k.wrap (a*b)))
 | .quo=>.bind (zB1 k a b) fun c=>K (.d (.int k) c)
 | .rem=>.bind (q7V a b) fun c=>K (.d (.int k) c)
 | _=>F
omit [Yl] in
theorem q77 {x y:PV}{a b:Value}(hx:pl x=some a)(hy:pl y=some b):jT P op t t2 x y ph=jT P op t t2 (fvv a) (fvv b) []:=by
 unfold jT;rw[hx,hy];rfl
def qR7 (P:Program)(op:BinOp)(t t2 ty:TypeId)(x y:SV)(K:SV->zEY R):zEY R:=match mD x,mD y,qD3 P 8 ty with
 | some a,some b,some u=>.bind (u.zGT (jT P op t t2 (fvv a) (fvv b) [])) fun z=>K (.d u z)
 | _,_,_=>.fail
def zCK (P:Program)(t:TypeId)(x y:SV)(h:SH):Option Bool:=match y with
 | .c (.slice none _ _)=>cond (zS P t).isSome (match x with
   | .own k g n=>(match slk k h.l with
     | some (.list _ gr g' _ _ _)=>cond (Nat.beq g g') (some (gr&&Nat.beq n 0)) none
     | _=>none)
   | .sl k g n _ _=>(match slk k h.l with
     | some (.list _ gr g' _ _ _)=>cond (Nat.beq g g') (some (gr&&Nat.beq n 0)) none
     | _=>none)
   | _=>none) none
 | .c .nilFunc=>cond (qWT P t) (match x with
   | .fn _ _ _=>some false
   | _=>none) none
 | _=>none
theorem qWN (ho:OkH P h)(hx:x.ok h)(e:zCK P t x y h=some b):qEG P t x.enc y.enc (qD h.l)=some b∧pl x.enc=none:=by
 unfold zCK at e;split at e
 ·rename_i n c
  cases h1:(zS P t).isSome with
  | false=>rw[h1] at e;cases e
  | true =>
    rw[h1] at e;simp only[cond_true] at e;split at e
    ·rename_i k g n;split at e
     ·rename_i el gr g' w u xs hk
      cases h2:Nat.beq g g' with
      | false=>rw[h2] at e;cases e
      | true =>
        rw[h2] at e;cases e;have hg:g=g':=zOH h2;subst hg;simp only[SV.ok] at hx;have hn:=hx.2 _ _ _ _ _ hk;have hl:=ho.list _ _ _ _ _ _ _ hk;refine⟨?_,by simp[SV.enc,pl]⟩;simp only[SV.enc,fvv,qEG,h1,cond_true,isNil,zP hk];rw[show (SO.list el gr g w u xs).enc.el=el from rfl,hl.2.1];simp only[qV,hn,aC,cond_true];rfl
     ·cases e
    ·rename_i k g n o m;split at e
     ·rename_i el gr g' w u xs hk
      cases h2:Nat.beq g g' with
      | false=>rw[h2] at e;cases e
      | true =>
        rw[h2] at e;cases e;have hg:g=g':=zOH h2;subst hg;simp only[SV.ok] at hx;have hn:=hx.1.2 _ _ _ _ _ hk;have hl:=ho.list _ _ _ _ _ _ _ hk;refine⟨?_,by simp[SV.enc,pl]⟩;simp only[SV.enc,fvv,qEG,h1,cond_true,isNil,zP hk];rw[show (SO.list el gr g w u xs).enc.el=el from rfl,hl.2.1];simp only[qV,hn,aC,cond_true];rfl
     ·cases e
    ·cases e
 ·cases h1:qWT P t with
  | false=>rw[h1] at e;cases e
  | true =>
    rw[h1] at e;simp only[cond_true] at e;split at e
    ·cases e;exact⟨by simp[SV.enc,fvv,qEG,h1,qOF],by simp[SV.enc,pl]⟩
    ·cases e
 ·cases e
def q5C (P:Program)(t:TypeId)(x y:SV):Option Bool:=match x,y with
 | .d (.ol _ _) xs,.c (.slice none 0 0)=>cond (zS P t).isSome (some (List.isEmpty xs)) none
 | _,_=>none
theorem qOV (e:q5C P t x y=some b):jT P .eql t t2 x.enc y.enc ph=some (fvv (.bool b))∧jT P .neq t t2 x.enc y.enc ph=some (fvv (.bool !b)):=by
 unfold q5C at e;split at e
 ·rename_i el k xs
  cases h1:(zS P t).isSome with
  | false=>rw[h1] at e;cases e
  | true =>
    rw[h1] at e;cases e
    cases xs with
    | nil =>
      have hn:qEG P t (fvv (.slice none 0 0)) (fvv (.slice none 0 0)) ph=some true:=by simp only[qEG,fvv,h1,cond_true,isNil]
      have hv:∀ H,VR P (fun _=>True) H (own (fun _=>0) ph) (fvv (.slice none 0 0)) (.slice none 0 0):=fun H=>.f (.v rfl rfl)
      constructor
      ·have:=(qHP (op:=.eql) (o:=cop (.binOp .eql t (.const (.slice none 0 0)) (.const (.slice none 0 0)) t2)) (env:=[]) (hv H00) (hv H00) hn).1;simp only[SV.enc,Ty.fv,fvo];show jT P .eql t t2 (fvv (.slice none 0 0)) (fvv (.slice none 0 0)) ph=_;unfold jT;rw[show pl (fvv (.slice none 0 0))=some (.slice none 0 0) from rfl];simp only[this];rfl
      ·have:=(qHP (op:=.neq) (o:=cop (.binOp .neq t (.const (.slice none 0 0)) (.const (.slice none 0 0)) t2)) (env:=[]) (hv H00) (hv H00) hn).2;simp only[SV.enc,Ty.fv,fvo];show jT P .neq t t2 (fvv (.slice none 0 0)) (fvv (.slice none 0 0)) ph=_;unfold jT;rw[show pl (fvv (.slice none 0 0))=some (.slice none 0 0) from rfl];simp only[this];rfl
    | cons x xs =>
      have hn:qEG P t (.f (fvo el k (x::xs))) (fvv (.slice none 0 0)) ph=some false:=by
       simp only[qEG,fvv,h1,cond_true,fvo,zO8,zQN,isNil]
      constructor
      ·simp only[SV.enc,Ty.fv];show uW P t (.f (fvo el k (x::xs))) (fvv (.slice none 0 0)) ph _=_;unfold uW;rw[hn];rfl
      ·simp only[SV.enc,Ty.fv];show uW P t (.f (fvo el k (x::xs))) (fvv (.slice none 0 0)) ph _=_;unfold uW;rw[hn];rfl
 ·cases e
def q6R (P:Program)(t:TypeId)(x y:SV):Option Bool:=match x,y with
 | .d (.list _ u) xs,.c (.slice none 0 0)=>cond ((zS P t).isSome&&Nat.blt 0 u.w) (some (List.isEmpty xs)) none
 | _,_=>none
theorem qAE (e:q6R P t x y=some b) :
 (b=true->jT P .eql t t2 x.enc y.enc ph=some .bq∧jT P .neq t t2 x.enc y.enc ph=some .bq)∧(b=false->jT P .eql t t2 x.enc y.enc ph=some (fvv (.bool false))∧jT P .neq t t2 x.enc y.enc ph=some (fvv (.bool true))):=by
 unfold q6R at e;split at e
 case h_2=>cases e
 rename_i el u xs
 cases h1:((zS P t).isSome&&Nat.blt 0 u.w) with
 | false=>rw[h1] at e;cases e
 | true =>
   rw[h1] at e;cases e;rw[zOG] at h1;obtain⟨h1,h2⟩:=h1;have h2:0 < u.w:=zOQ h2
   cases xs with
   | nil =>
     have hq:qRK P t (.f (.l el 0 [])) (fvv (.slice none 0 0))=some .bq:=by simp only[qRK,fvv,h1,cond_true]
     have hn:qEG P t (.f (.l el 0 [])) (fvv (.slice none 0 0)) ph=none:=by simp only[qEG,fvv,h1,cond_true,isNil]
     refine⟨fun _=>?_,fun h=>(by cases h)⟩;simp only[SV.enc,Ty.fv,List.flatMap_nil,zSQ];constructor
     ·show uW P t (.f (.l el 0 [])) (fvv (.slice none 0 0)) ph _=_;unfold uW;rw[hn];exact hq
     ·show uW P t (.f (.l el 0 [])) (fvv (.slice none 0 0)) ph _=_;unfold uW;rw[hn];exact hq
   | cons x xs =>
     refine⟨fun h=>(by cases h),fun _=>?_⟩
     obtain⟨c,cs,hcs⟩:∃ c cs,List.flatMap u.cells (x::xs)=c::cs:=by
      cases hf:List.flatMap u.cells (x::xs) with
      | nil =>
        have:=congrArg List.length hf;rw[zW,zO4,zRC] at this;simp at this;omega
      | cons c cs=>exact⟨c,cs,rfl⟩
     have hn:qEG P t (.f (.l el (xs.length+1) (c::cs))) (fvv (.slice none 0 0)) ph=some false:=by simp only[qEG,fvv,h1,cond_true,isNil]
     simp only[SV.enc,Ty.fv,hcs,zO4];constructor
     ·show uW P t (.f (.l el (xs.length+1) (c::cs))) (fvv (.slice none 0 0)) ph _=_;unfold uW;rw[hn]
     ·show uW P t (.f (.l el (xs.length+1) (c::cs))) (fvv (.slice none 0 0)) ph _=_;unfold uW;rw[hn];rfl
def q76 (P:Program)(op:BinOp)(t t2 ty:TypeId)(x y:SV)(h:SH)(K:SV->zEY R):zEY R:=match zCK P t x y h,op with
 | some b,.eql=>K (.d .bool b)
 | some b,.neq=>K (.d .bool (!b))
 | _,_=>qR7 P op t t2 ty x y K
def q7G (P:Program)(op:BinOp)(t t2 ty:TypeId)(x y:SV)(h:SH)(K:SV->zEY R):zEY R:=match q6R P t x y,op with
 | some b,.eql=>.ite b (K .bq) (K (.d .bool false))
 | some b,.neq=>.ite b (K .bq) (K (.d .bool true))
 | _,_=>q76 P op t t2 ty x y h K
def zC1 (P:Program)(op:BinOp)(t t2 ty:TypeId)(x y:SV)(h:SH)(K:SV->zEY R):zEY R:=match asI x,asI y with
 | some (k,a),some (k',b)=>cond (decide (k=k')) (sint op k a b K (qR7 P op t t2 ty x y K)) (qR7 P op t t2 ty x y K)
 | _,_=>(match asS x,asS y with
   | some a,some b=>zD2 op a b K (qR7 P op t t2 ty x y K)
   | _,_=>(match q5C P t x y,op with
     | some b,.eql=>K (.d .bool b)
     | some b,.neq=>K (.d .bool (!b))
     | _,_=>q7G P op t t2 ty x y h K))
theorem qAD {K:SV->zEY R}(e:(qR7 P op t t2 ty x y K).run=some r):∃ v,jT P op t t2 x.enc y.enc (qD h.l)=some v.enc∧v.ok h∧(K v).run=some r:=by
 unfold qR7 at e;split at e
 ·rename_i a b u ha hb hu;obtain⟨z,hz,e1⟩:=run_bind e;refine⟨_,?_,by simp[SV.ok],e1⟩;rw[q77 (u7 ha) (u7 hb)];exact qOS hz
 ·cases e
theorem qZQ {K:SV->zEY R}(ho:OkH P h)(hx:x.ok h)(e:(q76 P op t t2 ty x y h K).run=some r):∃ v,jT P op t t2 x.enc y.enc (qD h.l)=some v.enc∧v.ok h∧(K v).run=some r:=by
 unfold q76 at e;split at e
 ·rename_i b hs;obtain⟨h1,h2⟩:=qWN ho hx hs;refine⟨_,?_,by simp[SV.ok],e⟩;unfold jT;rw[h2];simp[uW,h1,SV.enc,Ty.fv,fvv]
 ·rename_i b hs;obtain⟨h1,h2⟩:=qWN ho hx hs;refine⟨_,?_,by simp[SV.ok],e⟩;unfold jT;rw[h2];simp[uW,h1,SV.enc,Ty.fv,fvv]
 ·exact qAD e
theorem qZY {K:SV->zEY R}(ho:OkH P h)(hx:x.ok h)(e:(q7G P op t t2 ty x y h K).run=some r):∃ v,jT P op t t2 x.enc y.enc (qD h.l)=some v.enc∧v.ok h∧(K v).run=some r:=by
 unfold q7G at e;split at e
 ·rename_i b hs
  rcases run_ite e with ⟨z,e1⟩ | ⟨z,e1⟩
  ·exact⟨.bq,by rw[((qAE hs).1 z).1];simp[SV.enc],by simp[SV.ok],e1⟩
  ·exact⟨.d .bool false,by rw[((qAE hs).2 z).1];simp[SV.enc,Ty.fv,fvv],by simp[SV.ok],e1⟩
 ·rename_i b hs
  rcases run_ite e with ⟨z,e1⟩ | ⟨z,e1⟩
  ·exact⟨.bq,by rw[((qAE hs).1 z).2];simp[SV.enc],by simp[SV.ok],e1⟩
  ·exact⟨.d .bool true,by rw[((qAE hs).2 z).2];simp[SV.enc,Ty.fv,fvv],by simp[SV.ok],e1⟩
 ·exact qZQ ho hx e
theorem q69 {K:SV->zEY R}(ho:OkH P h)(hx:x.ok h)(e:(zC1 P op t t2 ty x y h K).run=some r):∃ v,jT P op t t2 x.enc y.enc (qD h.l)=some v.enc∧v.ok h∧(K v).run=some r:=by
 unfold zC1 at e;split at e
 ·rename_i k a k' b ha hb
  cases hk:decide (k=k') with
  | false=>rw[hk] at e;exact qAD e
  | true =>
    rw[hk] at e;have hkk:k=k':=by simpa using hk
    subst hkk;simp only[cond_true] at e;have ha':=yF ha;have hb':=yF hb
    have fin:∀ {v:SV},jT P op t t2 (fvv (.int k a)) (fvv (.int k b)) (qD h.l)=some v.enc->v.ok h->(K v).run=some r->∃ v,jT P op t t2 x.enc y.enc (qD h.l)=some v.enc∧v.ok h∧(K v).run=some r:=fun h1 h2 h3=>⟨_,by rw[ha',hb'];exact h1,h2,h3⟩
    unfold sint at e;split at e
    ·exact fin (v:=.d .bool (decide (a < b))) zAV (by simp[SV.ok]) e
    ·exact fin (v:=.d .bool (decide (a<=b))) zA7 (by simp[SV.ok]) e
    ·exact fin (v:=.d .bool (decide (b < a))) q9U (by simp[SV.ok]) e
    ·exact fin (v:=.d .bool (decide (b<=a))) zAZ (by simp[SV.ok]) e
    ·exact fin (v:=.d .bool (a==b)) q82 (by simp[SV.ok]) e
    ·exact fin (v:=.d .bool (a != b)) zA9 (by simp[SV.ok]) e
    ·exact fin (v:=.d (.int k) (k.wrap (a+b))) q9W (by simp[SV.ok]) e
    ·exact fin (v:=.d (.int k) (k.wrap (a - b))) q81 (by simp[SV.ok]) e
    ·exact fin (v:=.d (.int k) (k.wrap (a*b))) zAU (by simp[SV.ok]) e
    ·obtain⟨c,hc,e1⟩:=run_bind e;exact fin (v:=.d (.int k) c) (zBI hc) (by simp[SV.ok]) e1
    ·obtain⟨c,hc,e1⟩:=run_bind e;exact fin (v:=.d (.int k) c) (zBF hc) (by simp[SV.ok]) e1
    ·exact qAD e
 ·split at e
  ·rename_i a b ha hb;have ha':=gT ha;have hb':=gT hb;unfold zD2 at e;split at e
   ·rcases run_ite e with ⟨z,e1⟩ | ⟨z,e1⟩
    ·exact⟨.d .str (a++b),by rw[ha',hb',q5J (zOQ z)];simp[SV.enc,Ty.fv,fvv],by simp[SV.ok],e1⟩
    ·cases e1
   ·exact⟨.d .bool (a.toList==b.toList),by rw[ha',hb',q5D];simp[SV.enc,Ty.fv,fvv],by simp[SV.ok],e⟩
   ·exact⟨.d .bool (!(a.toList==b.toList)),by rw[ha',hb',q4Y];simp[SV.enc,Ty.fv,fvv],by simp[SV.ok],e⟩
   ·exact qAD e
  split at e
  ·rename_i b hs;exact⟨_,by rw[(qOV hs).1];simp[SV.enc,Ty.fv,fvv],by simp[SV.ok],e⟩
  ·rename_i b hs;exact⟨_,by rw[(qOV hs).2];simp[SV.enc,Ty.fv,fvv],by simp[SV.ok],e⟩
  exact qZY ho hx e
def qXE (P:Program)(mk:Operand->Op)(ty:TypeId)(x:SV)(K:SV->zEY R):zEY R:=match qD7 x,qD3 P 8 ty with
 | some a,some u=>.bind (u.zGT (bG P mk (fvv a))) fun z=>K (.d u z)
 | _,_=>.fail
theorem qQD {mk:Operand->Op}{K:SV->zEY R}(e:(qXE P mk ty x K).run=some r):∃ v,bG P mk x.enc=some v.enc∧v.ok h∧(K v).run=some r∧∃ a,qD7 x=some a:=by
 unfold qXE at e;split at e
 ·rename_i a u ha hu;obtain⟨z,hz,e1⟩:=run_bind e;exact⟨_,by rw[rY ha];exact qOS hz,by simp[SV.ok],e1,a,ha⟩
 ·cases e
def sun (P:Program)(op:UnOp)(t ty:TypeId)(x:SV)(K:SV->zEY R):zEY R:=match op,asI x,asB x with
 | .neg,some (k,a),_=>K (.d (.int k) (k.wrap (0 - a)))
 | .not,_,some b=>K (.d .bool (!b))
 | _,_,_=>qXE P (fun a=>.unOp op t a) ty x K
omit [Yl] in
theorem q5A {x:Int}:bG P (fun a=>.unOp .neg t a) (fvv (.int k x))=some (fvv (.int k (k.wrap (0 - x)))):=rfl
theorem q9S {op:UnOp}{K:SV->zEY R}(e:(sun P op t ty x K).run=some r):∃ v,bG P (fun a=>.unOp op t a) x.enc=some v.enc∧v.ok h∧(K v).run=some r:=by
 unfold sun at e;split at e
 ·rename_i k a ha;exact⟨_,by rw[yF ha,q5A];simp[SV.enc,Ty.fv,fvv],by simp[SV.ok],e⟩
 ·rename_i b hb;exact⟨_,by rw[rR hb,zAK];simp[SV.enc,Ty.fv,fvv],by simp[SV.ok],e⟩
 ·obtain⟨v,h1,h2,h3,_⟩:=qQD (h:=h) e;exact⟨v,h1,h2,h3⟩
def dQ (env:List SV)(l:Array Operand):List SV:=l.toList.map (kG env)
theorem gD (env:List SV)(l:Array Operand):l.toList.map (qK (qB env))=qB (dQ env l):=by
 unfold dQ;rw[zH (l.toList.map (kG env)),zQP];exact zP3 fun x _=>qO env x
omit [Yl] in
theorem gW (ho:okL h env)(l:Array Operand):okL h (dQ env l):=zM.2 fun x hx=>by
 obtain⟨q,_,rfl⟩:=zO6.1 hx;exact mG ho _
def smm (lo:Bool)(x y:SV)(K:SV->zEY R):zEY R:=match asI x,asI y with
 | some (k,a),some (k',b)=>cond (decide (k=k')) (K (.d (.int k) (cond lo (cond (decide (b < a)) b a) (cond (decide (a < b)) b a)))) .fail
 | _,_=>.fail
omit [Yl] in
theorem dmin {x y:Operand}{b:Int}{env:Env}(hx:env.val x=.int k a)(hy:env.val y=.int k b) :
 qRR (kL P (cop (.call ⟨.builtin .min,#[x,y],ts⟩) ty) env H00)=some (fvv (.int k (if b < a then b else a))):=by
 have h2:kS env.val (cop (.call ⟨.builtin .min,#[x,y],ts⟩) ty).op.operands.toList=[env.val x,env.val y]:=rfl;unfold kL;rw[h2];simp only[cop,execOp,resolve,List.map_toArray,zOZ,zQQ,hx,hy];rfl
omit [Yl] in
theorem dmax {x y:Operand}{b:Int}{env:Env}(hx:env.val x=.int k a)(hy:env.val y=.int k b) :
 qRR (kL P (cop (.call ⟨.builtin .max,#[x,y],ts⟩) ty) env H00)=some (fvv (.int k (if a < b then b else a))):=by
 have h2:kS env.val (cop (.call ⟨.builtin .max,#[x,y],ts⟩) ty).op.operands.toList=[env.val x,env.val y]:=rfl;unfold kL;rw[h2];simp only[cop,execOp,resolve,List.map_toArray,zOZ,zQQ,hx,hy];rfl
omit [Yl] in
theorem qXN {p:Prop}[Decidable p]{α:Type}{x y:α}:cond (decide p) x y=if p then x else y:=by
 by_cases h:p <;> simp[h]
theorem q4M {lo:Bool}{c:Call}{K:SV->zEY R}(hl:dQ env c.args=[x,y])(hc:c.callee=.builtin (cond lo .min .max))(e:(smm lo x y K).run=some r) :
 ∃ v,vS P (cond lo .min .max) c [x.enc,y.enc] (qB env) ty (qD h.l)=some (v.enc,qD h.l)∧v.ok h∧(K v).run=some r:=by
 unfold smm at e;split at e
 ·rename_i k a k' b ha hb
  cases hk:decide (k=k') with
  | false=>rw[hk] at e;cases e
  | true =>
    rw[hk] at e;have:k=k':=by simpa using hk
    subst this;have e1:=yF ha;have e2:=yF hb;refine⟨_,?_,by simp[SV.ok],e⟩;obtain⟨cal,args,ts⟩:=c;simp only at hc hl;subst hc;unfold dQ at hl
    have hal:∃ p q,args=#[p,q]∧kG env p=x∧kG env q=y:=by
     obtain⟨l⟩:=args
     match l,hl with
     | [p,q],hl=>simp at hl;exact⟨p,q,rfl,hl.1,hl.2⟩
    obtain⟨p,q,rfl,hp,hq⟩:=hal;have vp:(qRJ (qB env)).val p=.int k a:=dK P (by rw[qO,hp,e1];rfl);have vq:(qRJ (qB env)).val q=.int k b:=dK P (by rw[qO,hq,e2];rfl);unfold vS;rw[e1,e2];have hpl:plL [fvv (.int k a),fvv (.int k b)]=some [.int k a,.int k b]:=rfl;rw[hpl]
    cases lo with
    | true =>
      simp only[cond_true];rw[dmin vp vq,qXN];simp[pp1,SV.enc,Ty.fv,fvv]
    | false =>
      simp only[cond_false];rw[dmax vp vq,qXN];simp[pp1,SV.enc,Ty.fv,fvv]
 ·cases e
def q6D (P:Program)(ts:Array TypeId)(x:SV)(h:SH):Option SV:=match sG P x.enc (qD h.l) with
 | some _=>none
 | none=>zDJ P ts x h
theorem qZP {v:SV}(ho:OkH P h)(hx:x.ok h)(e:q6D P ts x h=some v):qC6 P ts x.enc (qD h.l)=some v.enc∧v.ok h:=by
 unfold q6D at e;split at e
 ·cases e
 ·rename_i hn;unfold qC6;rw[hn];exact q5Q ho hx e
theorem qQ8 {lo hi:Option Operand}{K:SV->zEY R}(e:(qW6 P t s (lo.map (kG env)) (hi.map (kG env)) K).run=some r) :
 ∃ v,qMD P (.slice t (.const (.string s)) (lo.map fun a=>.const ((pl (qK (qB env) a)).getD undef)) (hi.map fun a=>.const ((pl (qK (qB env) a)).getD undef)) none)=some v.enc∧v.ok h∧(K v).run=some r∧(plL ((lo.toList++hi.toList).map (qK (qB env)))).isSome=true:=by
 obtain⟨c,e1⟩:=qG e;obtain⟨b,hb,_,e2⟩:=vJ e1;obtain⟨a,ha,_,e3⟩:=vJ e2;have m:∀ o:Option Operand,(o.map (kG env)).map SV.enc=o.map (qK (qB env)):=fun o=>by cases o <;> simp[qO]
 rw[m] at hb ha;refine⟨.d .str (s.extract a b),by rw[q1V (qDU c) hb ha];simp[SV.enc,Ty.fv,fvv],by simp[SV.ok],e3,?_⟩
 have one:∀ {o:Option Operand} {d most n:Nat},bnd d most (o.map (qK (qB env)))=some n->o=none∨∃ a k i,o=some a∧qK (qB env) a=fvv (.int k i):=fun {o d most n} h=>by
  rcases qTV h with ⟨q,_⟩ | ⟨k,i,q,_⟩
  ·cases o with
   | none=>exact .inl rfl
   | some a=>cases q
  ·cases o with
   | none=>cases q
   | some a=>exact .inr ⟨a,k,i,rfl,by simpa using q⟩
 rcases one hb with rfl | ⟨x,k,i,rfl,hx⟩ <;> rcases one ha with rfl | ⟨y,k',i',rfl,hy⟩ <;> simp_all [plL,fvv,pl]
theorem qSF {ix:SV}{K:SV->zEY R}(e:(qNT P t s ix K).run=some r) :
 ∃ v k i,ix.enc=fvv (.int k i)∧qMD P (.index t (.const (.string s)) (.const (.int k i)))=some v.enc∧v.ok h∧(K v).run=some r:=by
 unfold qNT at e;split at e
 ·rename_i k i hi;obtain⟨c,e1⟩:=qG e;obtain⟨b,hb,e2⟩:=run_bind e1;exact⟨.d (.int .u8) b,k,i,yF hi,by rw[q0X (qDU c) hb];simp[SV.enc,Ty.fv,fvv],by simp[SV.ok],e2⟩
 ·cases e
theorem q1S {s d:TypeId}{K:SV->zEY R}{F:zEY R}(e:(qZT P s d x K F).run=some r):(∃ v,bG P (fun a=>.convert s d a) x.enc=some v.enc∧v.ok h∧(K v).run=some r)∨F.run=some r:=by
 unfold qZT at e;split at e
 ·rename_i u k' hs hd;split at e
  ·rename_i k a ha;exact .inl ⟨_,by rw[yF ha,q49 hs hd];simp[SV.enc,Ty.fv,fvv],by simp[SV.ok],e⟩
  ·exact .inr e
 ·rename_i u hs hd;split at e
  ·rename_i a ha;exact .inl ⟨_,by rw[gT ha,q0G hs hd];simp[SV.enc,Ty.fv,fvv],by simp[SV.ok],e⟩
  ·exact .inr e
 ·exact .inr e
def qJA (env:List SV)(parts:Array (Nat×Operand)):List (Nat×SV):=parts.toList.map fun p=>(p.1,kG env p.2)
theorem qDM (env:List SV)(parts:Array (Nat×Operand)):(parts.toList.map fun p=>(p.1,qK (qB env) p.2))=q8D (qJA env parts):=by
 simp[qJA,q8D,qO]
omit [Yl] in
theorem qJP {env:List SV}(ho:okL h env)(parts:Array (Nat×Operand)):∀ p∈qJA env parts,p.2.ok h:=fun p hp=>by
 obtain⟨q,_,rfl⟩:=zO6.1 hp;exact mG ho _
def qU2:Operand->Operand->Bool
 | .tmp i,.tmp j=>Nat.beq i j
 | .const (.int k a),.const (.int k' b)=>decide (k=k')&&decide (a=b)
 | _,_=>false
omit [Yl] in
theorem qX3 {a b:Operand}(e:qU2 a b=true):a=b:=by
 unfold qU2 at e;split at e
 ·rw[zOH e]
 ·rw[zOG] at e;have h1:=of_decide_eq_true e.1;have h2:=of_decide_eq_true e.2;rw[h1,h2]
 ·cases e
def gv (o:Option SV)(h:SH)(K:SV->SH->zEY R):zEY R:=match o with
 | some v=>K v h
 | none=>.fail
def sop (P:Program)(o:Oper)(env:List SV)(k:Nat)(h:SH)(K:SV->SH->zEY R):zEY R:=match o.op with
 | .move x=>K (kG env x) h
 | .assign x=>K (kG env x) h
 | .pick c a b=>(match asB (kG env c) with
   | some t=>.ite t (K (kG env a) h) (K (kG env b) h)
   | none=>.fail)
 | .alloc el=>qUC P el k h K
 | .box el x=>zD3 P el (kG env x) k h K
 | .build t parts=>gv (qVS P t (qJA env parts)) h K
 | .buildSlice t len parts=>eX P t len (qJA env parts) k h K
 | .load t a=>q42 P t (kG env a) h fun v=>K v h
 | .store t a x=>qYI P t (kG env a) (kG env x) h K
 | .nilCheck x=>gv (qCN (kG env x) h) h K
 | .binOp op t x y t2=>zC1 P op t t2 o.type (kG env x) (kG env y) h fun v=>K v h
 | .unOp op t x=>sun P op t o.type (kG env x) fun v=>K v h
 | .convert s d x=>cond (qRG (kG env x).enc) .fail (qZT P s d (kG env x) (fun v=>K v h) (qXE P (fun a=>.convert s d a) o.type (kG env x) fun v=>K v h))
 | .makeFunc fn first cap=>gv (qCS fn (dQ env first) (dQ env cap)) h K
 | .makeSlice t l c=>cond (qU2 l c) (q5T P t (kG env l) k h K) .fail
 | .slice t x lo hi none=>(match asS (kG env x) with
   | some s=>qW6 P t s (lo.map (kG env)) (hi.map (kG env)) fun v=>K v h
   | none=>qVY P t (kG env x) (lo.map (kG env)) (hi.map (kG env)) h fun v=>K v h)
 | .fieldAddr t x i=>gv (p9 P t (kG env x) i h) h K
 | .indexAddr t x ix=>rT P t (kG env x) (kG env ix) h fun v=>K v h
 | .index t x ix=>(match asS (kG env x) with
   | some s=>qNT P t s (kG env ix) fun v=>K v h
   | none=>qTY P t (kG env x) (kG env ix) fun v=>K v h)
 | .extract t i=>gv (qFU (kG env t) i) h K
 | .makeMap _ none=>qOK P k h K
 | .lookup t m kx ok=>qMX P t (kG env m) (kG env kx) ok h fun v=>K v h
 | .mapUpdate t m kx x=>pW P t (kG env m) (kG env kx) (kG env x) h K
 | .call c=>(match c.callee,dQ env c.args with
   | .builtin .append,[x,y]=>q71 P c.argTypes.toList x y k h K
   | .builtin .copy,[x,y]=>q7U P c.argTypes.toList x y h K
   | .builtin .len,[x]=>cond (qY0 P c.argTypes) (match asS x with
     | some s=>K (.d (.int .i64) (s.size:Int)) h
     | none=>.fail) (match q51 P c.argTypes x h with
     | some v=>K v h
     | none=>gv (q6D P c.argTypes x h) h K)
   | .builtin .min,[x,y]=>smm true x y fun v=>K v h
   | .builtin .max,[x,y]=>smm false x y fun v=>K v h
   | _,_=>.fail)
 | _=>.fail
omit [Yl] in
theorem qRV {o:Option SV}{K:SV->SH->zEY R}(e:(gv o h K).run=some r):∃ v,o=some v∧(K v h).run=some r:=by
 unfold gv at e;split at e
 ·exact⟨_,rfl,e⟩
 ·cases e
theorem q4J {k:Nat}{K:SV->SH->zEY R}(ho:OkH P h)(he:okL h env)(e:(sop P o env k h K).run=some r) :
 ∃ v h',sV P o (qB env) k (qD h.l)=some (v.enc,qD h'.l)∧Post P h h' v∧(K v h').run=some r:=by
 have same:∀ {v:SV},v.ok h->Post P h h v:=fun hv=>⟨.refl _,ho,hv⟩
 have sv:=fun x=>mG (h:=h) he x
 unfold sop at e;unfold sV;split at e
 ·rename_i x ho';exact⟨_,_,by simp only[ho',qO],same (sv x),e⟩
 ·rename_i x ho';exact⟨_,_,by simp only[ho',qO],same (sv x),e⟩
 ·rename_i c a b ho';split at e
  ·rename_i t ht;have h1:=rR ht
   rcases run_ite e with ⟨z,e1⟩ | ⟨z,e1⟩
   ·exact⟨_,_,by simp only[ho',qO,h1,fvv,z,cond_true],same (sv a),e1⟩
   ·exact⟨_,_,by simp only[ho',qO,h1,fvv,z,cond_false],same (sv b),e1⟩
  ·cases e
 ·rename_i el ho';rw[ho'];exact qVO ho e
 ·rename_i el x ho';rw[ho'];simp only[qO];exact q6A ho (sv x) e
 ·rename_i t parts ho';rw[ho'];obtain⟨v,h1,h2⟩:=qRV e;have h3:=qWH (qJP he parts) h1;exact⟨v,h,by simp only[qDM,h3.1,pp1],same h3.2,h2⟩
 ·rename_i t len parts ho';rw[ho'];simp only[qDM];exact qDA ho (qJP he parts) e
 ·rename_i t a ho';rw[ho'];obtain⟨v,h1,h2,h3⟩:=q2C ho (sv a) e;exact⟨v,h,by simp only[qO,h1,pp1],same h2,h3⟩
 ·rename_i t a x ho';rw[ho'];obtain⟨h',h1,h2,h3,h4⟩:=qTM ho (sv a) (sv x) e;exact⟨_,h',by simp only[qO,h1,ppS];simp[SV.enc,qB],⟨h2,h3,by simp[SV.ok,okL]⟩,h4⟩
 ·rename_i x ho';rw[ho'];obtain⟨v,h1,h2⟩:=qRV e;have h3:=qJM (sv x) h1;exact⟨v,h,by simp only[qO,h3.1,pp1],same h3.2,h2⟩
 ·rename_i op t x y t2 ho';rw[ho'];obtain⟨v,h1,h2,h3⟩:=q69 ho (sv x) e;exact⟨v,h,by simp only[qO,h1,pp1],same h2,h3⟩
 ·rename_i op t x ho';rw[ho'];obtain⟨v,h1,h2,h3⟩:=q9S (h:=h) e;exact⟨v,h,by simp only[qO,h1,pp1],same h2,h3⟩
 ·rename_i s d x ho';rw[ho']
  cases hp:qRG (kG env x).enc with
  | true=>rw[hp] at e;cases e
  | false =>
    rw[hp] at e;have e1:(qZT P s d (kG env x) (fun v=>K v h) (qXE P (fun a=>.convert s d a) o.type (kG env x) fun v=>K v h)).run=some r:=e;rcases q1S (h:=h) e1 with ⟨v,h1,h2,h3⟩ | e1
    ·exact⟨v,h,by simp only[qO,hp,cond_false,h1,pp1],same h2,h3⟩
    ·obtain⟨v,h1,h2,h3,_⟩:=qQD (h:=h) e1;exact⟨v,h,by simp only[qO,hp,cond_false,h1,pp1],same h2,h3⟩
 ·rename_i fn first cap ho'
  rw[ho'];obtain⟨v,h1,h2⟩:=qRV e;have h3:=qH4 (gW he first) (gW he cap) h1;exact⟨v,h,by simp only[gD,h3.1,pp1],same h3.2,h2⟩
 ·rename_i t l c ho';rw[ho'];obtain⟨h1,h2⟩:=qG e;have:=qX3 h1;subst this;simp only[qO];exact q2O ho h2
 ·rename_i t x lo hi ho';rw[ho'];split at e
  ·rename_i s hs;obtain⟨v,h1,h2,h3,h4⟩:=qQ8 (h:=h) e;obtain⟨vs,hvs⟩:=zPN.1 h4;refine⟨v,h,?_,same h2,h3⟩;have hx:qK (qB env) x=.f (.v (.string s)):=by rw[qO];exact gT hs
   simp only[hx,hvs,h1,pp1]
  obtain⟨v,h1,h2,h3⟩:=qXB ho (sv x) e;refine⟨v,h,?_,same h2,h3⟩;have m:∀ o:Option Operand,o.map (qK (qB env))=(o.map (kG env)).map SV.enc:=fun o=>by cases o <;> simp[qO]
  simp only[qO,m]
  have ns:∀ s,(kG env x).enc≠.f (.v (.string s)):=fun s hs=>by
   rw[hs] at h1;simp only[wL] at h1;cases h1
  split
  ·rename_i s hs;exact absurd hs (ns s)
  ·rw[h1];rfl
 ·rename_i t x i ho';rw[ho'];obtain⟨v,h1,h2⟩:=qRV e;have h3:=qFS (sv x) h1;exact⟨v,h,by simp only[qO,h3.1,pp1],same h3.2,h2⟩
 ·rename_i t x ix ho';rw[ho'];obtain⟨v,h1,h2,h3⟩:=qG3 ho (sv x) e;exact⟨v,h,by simp only[qO,h1,pp1],same h2,h3⟩
 ·rename_i t x ix ho';rw[ho'];split at e
  ·rename_i s hs;obtain⟨v,k',i,h0,h1,h2,h3⟩:=qSF (h:=h) e;refine⟨v,h,?_,same h2,h3⟩;have hx:=gT hs;have hpl:pl (fvv (.int k' i))=some (.int k' i):=rfl;simp only[qO,hx,h0,hpl];simp only[fvv,h1,pp1]
  obtain⟨v,h1,h2,h3,l,hl⟩:=qU9 (sv x) e;refine⟨v,h,?_,same h2,h3⟩;simp only[qO];rw[hl] at h1 ⊢;simp only[SV.enc] at h1 ⊢;rw[h1];rfl
 ·rename_i t i ho';rw[ho'];obtain⟨v,h1,h2⟩:=qRV e;have h3:=qMK (sv t) h1;exact⟨v,h,by simp only[qO,h3.1,pp1],same h3.2,h2⟩
 ·rename_i ho';rw[ho'];exact qMA ho e
 ·rename_i t m kx ok ho';rw[ho'];obtain⟨v,h1,h2,h3⟩:=qSK e;exact⟨v,h,by simp only[qO,h1,pp1],same h2,h3⟩
 ·rename_i t m kx x ho';rw[ho'];obtain⟨h',h1,h2,h3,h4⟩:=qHE ho e;exact⟨_,h',by simp only[qO,h1,ppS];simp[SV.enc,qB],⟨h2,h3,by simp[SV.ok,okL]⟩,h4⟩
 ·rename_i c ho';rw[ho'];have ha:=gD env c.args;have hao:=gW he c.args;split at e
  ·rename_i x y hc hl;rw[hl] at ha hao;simp only[okL] at hao;simp only[hc,ha,qB,uJ];exact q1K ho hao.1 hao.2.1 e
  ·rename_i x y hc hl;rw[hl] at ha hao;simp only[okL] at hao;simp only[hc,ha,qB,uJ];exact q0Z ho hao.1 hao.2.1 e
  ·rename_i x hc hl;rw[hl] at ha hao;simp only[okL] at hao
   cases hst:qY0 P c.argTypes with
   | true =>
     rw[hst] at e;simp only[cond_true] at e;split at e
     ·rename_i s hs;refine⟨_,h,?_,same (by simp[SV.ok]),e⟩;obtain⟨cal,args,ts⟩:=c;simp only at hc hl hst;subst hc
      obtain⟨p,rfl,hp⟩:∃ p,args=#[p]∧kG env p=x:=by
       unfold dQ at hl;obtain⟨l⟩:=args
       match l,hl with
       | [p],hl=>simp at hl;exact⟨p,rfl,hl⟩
      have vp:(qRJ (qB env)).val p=.string s:=dK P (by rw[qO,hp,gT hs];rfl);simp only[uJ,ha,qB,hst,cond_true];unfold vS;have hpl:plL [x.enc]=some [.string s]:=by rw[gT hs];rfl
      rw[hpl];simp only;rw[qOH hst vp];simp[pp1,SV.enc,Ty.fv,fvv]
     ·cases e
   | false =>
     rw[hst] at e;simp only[cond_false] at e;split at e
     ·rename_i v hv;have h3:=qZK hv;refine⟨v,h,?_,same h3.2,e⟩;simp only[hc,ha,qB,uJ,hst,cond_false,h3.1,pp1]
     obtain⟨v,h1,h2⟩:=qRV e;have h3:=qZP ho hao.1 h1;refine⟨v,h,?_,same h3.2,h2⟩;simp only[hc,ha,qB,uJ,hst,cond_false,h3.1,pp1]
  ·rename_i x y hc hl;rw[hl] at ha;obtain⟨v,h1,h2,h3⟩:=q4M (h:=h) (lo:=true) (ty:=o.type) hl hc e;exact⟨v,h,by simp only[hc,ha,qB,uJ];exact h1,same h2,h3⟩
  ·rename_i x y hc hl;rw[hl] at ha;obtain⟨v,h1,h2,h3⟩:=q4M (h:=h) (lo:=false) (ty:=o.type) hl hc e;exact⟨v,h,by simp only[hc,ha,qB,uJ];exact h1,same h2,h3⟩
  ·cases e
 ·cases e
def zDU (P:Program)(o:Oper)(env:List SV)(k:Nat)(h:SH)(K:SV->SH->zEY R):zEY R:=sop P o env k h K
theorem q5U {k:Nat}{K:SV->SH->zEY R}(ho:OkH P h)(he:okL h env)(e:(zDU P o env k h K).run=some r) :
 ∃ v h',zBM P o (qB env) k (qD h.l)=some (v.enc,qD h'.l)∧Post P h h' v∧(K v h').run=some r:=by
 obtain⟨v,h',h1,h2,h3⟩:=q4J ho he e;exact⟨v,h',qWO h1,h2,h3⟩
end
end Go.Sv
namespace Go.Sv
open Go.Idl
variable {as env:List SV}{d k m n o w:Nat}{el ty:TypeId}{g:FuncId}{h':SH}{nm:Nm}{v:SV}
noncomputable section
variable [Gc]
variable [Yl]
variable {P:Program}{h:SH}{R:Type}{r:R}{tab:uT}
omit [Yl] in
theorem tZ:∀ (cs:List FV) (ph:PHp) (n:Nat),tH (fz1 P n) (cs.map .f) ph=some (cs,ph)
 | [],ph,n=>rfl
 | c::cs,ph,n=>by
   have e:fz1 P n ph (.f c)=some (c,ph):=by cases n <;> rfl
   show (match fz1 P n ph (.f c) with
    | some (y,ph1)=>(match tH (fz1 P n) (cs.map .f) ph1 with
      | some (ys,ph2)=>some (y::ys,ph2)
      | none=>none)
    | none=>none)=_
   rw[e];simp only[tZ cs ph n]
theorem q0O {gr:Bool}{g:Nat}{t:Ty}{xs:List t.sem}(ho:OkH P h)(hk:slk k h.l=some (.list el gr g w t xs))(hn:n=xs.length)(hom:o+m<=n) :
 fz1 P (d+1) (qD h.l) (.own k n o m)=some (.l el m (((xs.drop o).take m).flatMap t.cells),qD (h.del k).l):=by
 have hl:=ho.list _ _ _ _ _ _ _ hk;simp only[fz1,zP hk];rw[show (SO.list el gr g w t xs).enc.el=el from rfl,hl.2.1];simp only[qV,hn,aC,cond_true];rw[show (SO.list el gr g w t xs).enc.cs=(xs.flatMap t.cells).map .f from rfl,<-zQT,<-zQO,gH,gI,tZ];show some _=some (_,qD (sdl k h.l));rw[fB]
def q1M (el:TypeId)(t:Ty)(k g:Nat)(f:List t.sem->List t.sem)(h:SH):Option (List t.sem×SH):=match slk k h.l with
 | some (.list el' _ g' _ u xs)=>cond (Nat.beq el' el&&Nat.beq g g') (match qDC u t xs with
   | some xs=>some (f xs,h.del k)
   | none=>none) none
 | _=>none
def q2K (el:TypeId)(t:Ty):List SV->SH->Option (List (List t.sem)×SH)
 | [],h=>some ([],h)
 | .own k g _::l,h=>(match q1M el t k g (fun xs=>xs) h with
   | some (x,h1)=>(match q2K el t l h1 with
     | some (xs,h2)=>some (x::xs,h2)
     | none=>none)
   | none=>none)
 | _,_=>none
def qXD (P:Program)(el e2:TypeId)(t2:Ty)(k n:Nat)(h:SH):Option (List (List t2.sem)×SH):=match slk k h.l with
 | some (.cells el' _ cs)=>cond (Nat.beq el' el&&Nat.beq n cs.length) (match szT P el with
   | some 1=>q2K e2 t2 cs (h.del k)
   | _=>none) none
 | _=>none
def q9H (P:Program)(el:TypeId):(t:Ty)->(k n:Nat)->SH->Option (List t.sem×SH)
 | .list e2 t2,k,n,h=>qXD P el e2 t2 k n h
 | _,_,_,_=>none
def q9E (P:Program)(el:TypeId)(t:Ty)(k g n:Nat)(h:SH):Option (List t.sem×SH):=match q1M el t k g (fun xs=>xs) h with
 | some r=>some r
 | none=>q9H P el t k n h
def zEA (P:Program)(ty el:TypeId)(t:Ty)(h:SH):Option (List t.sem×SH):=match zS P ty with
 | some el'=>cond (Nat.beq el' el) (some ([],h)) none
 | none=>none
def zAX (P:Program)(ty el el':TypeId)(k':IntKind)(xs:List Int):(t:Ty)->Option (List t.sem)
 | .int k=>cond (Nat.beq el' el&&decide (k'=k)) (match zS P ty with
   | some e=>cond (Nat.beq e el) (some xs) none
   | none=>none) none
 | _=>none
def qW9 (t:Ty)(v:SV)(h:SH):Option (t.sem×SH):=match t.zJD v with
 | some x=>some (x,h)
 | none=>none
def q62 (P:Program)(el el':TypeId)(k w:Nat)(ik:IntKind)(h:SH):Option (List Int×SH):=match slk k h.l with
 | some (.spc w' (.arr el0 ik' xs))=>cond (Nat.beq el el'&&(Nat.beq w' w&&(decide (ik'=ik)&&!spec P el0))) (some (xs,h.del k)) none
 | _=>none
def zAN (P:Program)(el el':TypeId)(k w:Nat):(t:Ty)->SH->Option (List t.sem×SH)
 | .int ik,h=>q62 P el el' k w ik h
 | _,_=>none
omit [Yl] in
theorem q1I {k:IntKind}:∀ (xs:List Int),List.flatMap (Ty.int k).cells xs=xs.map fun x=>FV.v (.int k x)
 | []=>rfl
 | x::xs=>by rw[zO8,q1I xs];rfl
theorem q2F {el':TypeId}:∀ {t:Ty} {h h':SH} {x:List t.sem},OkH P h->(SV.asl el' k w n).ok h->zAN P el el' k w t h=some (x,h') ->
 fz1 P 4 (qD h.l) (.asl el' k n)=some ((Ty.list el t).fv x,qD h'.l)∧Keep h h'∧OkH P h'
 | .int ik,h,h',x,ho,hv,e=>by
   have e:q62 P el el' k w ik h=some (x,h'):=e;unfold q62 at e;split at e
   ·rename_i w' el0 ik' xs hk
    cases hc:(Nat.beq el el'&&(Nat.beq w' w&&(decide (ik'=ik)&&!spec P el0))) with
    | false=>rw[hc] at e;cases e
    | true =>
      rw[hc] at e;cases e;simp only[zOG,zO3,decide_eq_true_eq] at hc;obtain⟨h1,h2,h3,h4⟩:=hc;have h1:=zOH h1;have h2:=zOH h2;subst h1 h2 h3;simp only[SV.ok] at hv;obtain⟨el1,ik1,xs1,q1,q2⟩:=hv.2 _ hk rfl;cases q1;have hd:=gU (k:=k) ho;refine⟨?_,hd.1,hd.2⟩;simp only[fz1,zP hk]
      show (cond (Nat.beq n (x.map fun y=>fvv (.int ik' y)).length&&(!spec P el0&&!false)) (match tH (fz1 P 3) (x.map fun y=>fvv (.int ik' y)) (nR k (qD h.l)) with
       | some (cs,ph')=>some (FV.l el n cs,ph')
       | none=>none) none)=_
      rw[show (x.map fun y=>fvv (.int ik' y))=(x.map fun y=>FV.v (.int ik' y)).map .f by rw[zQP];rfl,tZ,zOS,zOS,h4,q2];simp only[aC,Bool.not_false,zPG,cond_true];rw[show nR k (qD h.l)=qD (h.del k).l from (fB k _).symm];show some (FV.l el x.length _,_)=some (FV.l el x.length (List.flatMap (Ty.int ik').cells x),_);rw[q1I]
   ·cases e
 | .bool,_,_,_,_,_,e=>by cases e
 | .str,_,_,_,_,_,e=>by cases e
 | .raw,_,_,_,_,_,e=>by cases e
 | .nif,_,_,_,_,_,e=>by cases e
 | .unit,_,_,_,_,_,e=>by cases e
 | .ol _ _,_,_,_,_,_,e=>by cases e
 | .list _ _,_,_,_,_,_,e=>by cases e
 | .pair _ _,_,_,_,_,_,e=>by cases e
def qZH (P:Program)(ty:TypeId):(t:Ty)->SV->SH->Option (t.sem×SH)
 | .list el t,.own k g n,h=>q9E P el t k g n h
 | .list el t,.sl k g _ o m,h=>q1M el t k g (fun xs=>(xs.drop o).take m) h
 | .list el t,.asl el' k w _,h=>zAN P el el' k w t h
 | .list el t,.c (.slice none 0 0),h=>zEA P ty el t h
 | .list el t,.d (.ol el' k') xs,h=>(match zAX P ty el el' k' xs t with
   | some x=>some (x,h)
   | none=>none)
 | t,v,h=>cond t.nol (qW9 t v h) none
omit [Yl] in
theorem nV:∀ {t:Ty} {x:t.sem},(t.one&&t.nol)=true->rt0 P ty (.f (t.fv x))=.f (t.fv x)
 | .int _,_,_=>rfl
 | .bool,_,_=>rfl
 | .str,_,_=>rfl
 | .raw,_,_=>rfl
 | .nif,_,_=>rfl
 | .ol _ _,_,e=>by cases e
 | .list _ _,_,_=>rfl
 | .unit,_,e=>by cases e
 | .pair _ _,_,e=>by cases e
theorem qPE {t:Ty}{g:Nat}{f:List t.sem->List t.sem}{x:List t.sem}(ho:OkH P h)(hs:qW7 h k g n)(hom:o+m<=n)(hf:∀ xs:List t.sem,xs.length=n->f xs=(xs.drop o).take m)(e:q1M el t k g f h=some (x,h')) :
 fz1 P (d+1) (qD h.l) (.own k n o m)=some ((Ty.list el t).fv x,qD h'.l)∧Keep h h'∧OkH P h':=by
 unfold q1M at e;split at e
 ·rename_i el' gr g' w u xs hk
  cases hc:(Nat.beq el' el&&Nat.beq g g') with
  | false=>rw[hc] at e;cases e
  | true =>
    rw[hc] at e;rw[zOG] at hc;have he:el'=el:=zOH hc.1;have hg:g=g':=zOH hc.2;subst he hg;simp only[cond_true] at e;split at e
    ·rename_i ys hys;cases uD hys;cases e;have hn:=hs.2 _ _ _ _ _ hk;have hd:=gU (k:=k) ho;refine⟨?_,hd.1,hd.2⟩;rw[q0O ho hk hn hom,hf _ hn.symm];show some (FV.l el' m _,_)=some (FV.l el' _ _,_);rw[zPQ,zQM,zP7 (by omega)]
    ·cases e
 ·cases e
theorem qFJ {ty:TypeId}{t:Ty}{g:Nat}{f:List t.sem->List t.sem}{x:List t.sem}(ho:OkH P h)(hs:qW7 h k g n)(hom:o+m<=n)(hf:∀ xs:List t.sem,xs.length=n->f xs=(xs.drop o).take m)(e:q1M el t k g f h=some (x,h')) :
 fz1 P 4 (qD h.l) (.own k n o m)=some ((Ty.list el t).fv x,qD h'.l)∧Keep h h'∧OkH P h' :=
 qPE (d:=3) ho hs hom hf e
theorem qQ3 {el:TypeId}{t:Ty}:∀ {l:List SV} {h h':SH} {x:List (List t.sem)},OkH P h->okL h l->q2K el t l h=some (x,h') ->
 tH (fz1 P 3) (qB l) (qD h.l)=some (x.map (Ty.list el t).fv,qD h'.l)∧Keep h h'∧OkH P h'∧x.length=l.length
 | [],h,h',x,ho,hl,e=>by
   cases e;exact⟨rfl,.refl _,ho,rfl⟩
 | v::l,h,h',x,ho,hl,e=>by
   cases v with
   | own k g n =>
     have e:(match q1M el t k g (fun xs=>xs) h with
      | some (x,h1)=>(match q2K el t l h1 with
        | some (xs,h2)=>some (x::xs,h2)
        | none=>none)
      | none=>none)=some (x,h'):=e
     split at e
     ·rename_i y h1 hy;split at e
      ·rename_i ys h2 hys;cases e;simp only[okL,SV.ok] at hl;obtain⟨a1,a2,a3⟩:=qPE (d:=2) (n:=n) (o:=0) (m:=n) ho hl.1 (by omega) (fun xs hl=>by rw[zP1,<-hl,zRA]) hy;obtain⟨b1,b2,b3,b4⟩:=qQ3 a3 (qI a2 hl.2) hys;refine⟨?_,a2.trans b2,b3,by simp[b4]⟩
       show (match fz1 P 3 (qD h.l) (.own k n 0 n) with
        | some (y,ph1)=>(match tH (fz1 P 3) (qB l) ph1 with
          | some (ys,ph2)=>some (y::ys,ph2)
          | none=>none)
        | none=>none)=_
       rw[a1];simp only[b1];rfl
      ·cases e
     ·cases e
   | _=>cases e
theorem q07:∀ {t:Ty} {k n g:Nat} {h h':SH} {x:List t.sem},OkH P h->q9H P el t k n h=some (x,h') ->
 fz1 P 4 (qD h.l) (.own k n 0 n)=some ((Ty.list el t).fv x,qD h'.l)∧Keep h h'∧OkH P h'
 | .list e2 t2,k,n,g,h,h',x,ho,e=>by
   have e:qXD P el e2 t2 k n h=some (x,h'):=e;unfold qXD at e;split at e
   ·rename_i el' w cs hk
    cases hc:(Nat.beq el' el&&Nat.beq n cs.length) with
    | false=>rw[hc] at e;cases e
    | true =>
      rw[hc] at e;simp only[cond_true] at e;rw[zOG] at hc;have h1:=zOH hc.1;have h2:=zOH hc.2;subst h1;split at e
      ·rename_i hs;have hd:=gU (k:=k) ho;obtain⟨b1,b2,b3,b4⟩:=qQ3 hd.2 (qI hd.1 (ho.cells _ _ _ _ hk)) e;refine⟨?_,hd.1.trans b2,b3⟩;simp only[fz1,zP hk]
       show (match szT P el' with
        | some s=>cond (Nat.beq (n*s) (qB cs).length) (match tH (fz1 P 3) (((qB cs).drop (0*s)).take (n*s)) (nR k (qD h.l)) with
          | some (cs,ph')=>some (FV.l el' n cs,ph')
          | none=>none) none
        | none=>none)=_
       rw[hs];simp only[Nat.mul_one,zRV,zP1,qQ,h2,aC,cond_true];rw[zO5 (by rw[qQ];exact zOI _),show nR k (qD h.l)=qD (h.del k).l from (fB k _).symm,b1];show some (FV.l el' cs.length (x.map (Ty.list e2 t2).fv),_)=some (FV.l el' x.length (x.flatMap (Ty.list e2 t2).cells),_);rw[b4]
       have hf:∀ y:List (List t2.sem),y.flatMap (Ty.list e2 t2).cells=y.map (Ty.list e2 t2).fv:=fun y=>by
        induction y with
        | nil=>rfl
        | cons a y ih=>rw[zO8,ih];rfl
       rw[hf]
      ·cases e
   ·cases e
 | .int _,_,_,_,_,_,_,_,e=>by cases e
 | .bool,_,_,_,_,_,_,_,e=>by cases e
 | .str,_,_,_,_,_,_,_,e=>by cases e
 | .unit,_,_,_,_,_,_,_,e=>by cases e
 | .pair _ _,_,_,_,_,_,_,_,e=>by cases e
 | .raw,_,_,_,_,_,_,_,e=>by cases e
 | .ol _ _,_,_,_,_,_,_,_,e=>by cases e
 | .nif,_,_,_,_,_,_,_,e=>by cases e
theorem qOA {t:Ty}{x:t.sem}(ho:OkH P h)(hv:v.ok h)(e:qZH P ty t v h=some (x,h')) :
 ∃ y,fz1 P 4 (qD h.l) v.enc=some (y,qD h'.l)∧rt0 P ty (.f y)=.f (t.fv x)∧(t.one&&t.nol)=true∧Keep h h'∧OkH P h':=by
 unfold qZH at e;split at e
 ·rename_i el t k g n;simp only[SV.ok] at hv;unfold q9E at e;split at e
  ·rename_i r hr;cases e;obtain⟨h1,h2,h3⟩:=qFJ (ty:=ty) (n:=n) (o:=0) (m:=n) ho hv (by omega) (fun xs hl=>by rw[zP1,<-hl,zRA]) hr;exact⟨_,by simp only[SV.enc];exact h1,nV rfl,rfl,h2,h3⟩
  ·obtain⟨h1,h2,h3⟩:=q07 (g:=g) ho e;exact⟨_,by simp only[SV.enc];exact h1,nV rfl,rfl,h2,h3⟩
 ·rename_i el t k g n o m;simp only[SV.ok] at hv;obtain⟨h1,h2,h3⟩:=qFJ (ty:=ty) (n:=n) (o:=o) (m:=m) ho hv.1 hv.2 (fun xs hl=>rfl) e;exact⟨_,by simp only[SV.enc];exact h1,nV rfl,rfl,h2,h3⟩
 ·rename_i el t el' k w n;obtain⟨h1,h2,h3⟩:=q2F ho hv e;exact⟨_,by simp only[SV.enc];exact h1,nV rfl,rfl,h2,h3⟩
 ·rename_i el t;unfold zEA at e;split at e
  ·rename_i el' hel
   cases hc:Nat.beq el' el with
   | false=>rw[hc] at e;cases e
   | true =>
     rw[hc] at e;cases e;have he:el'=el:=zOH hc;subst he;refine⟨.v (.slice none 0 0),by simp only[SV.enc,fvv,fz1],?_,rfl,.refl _,ho⟩
     show (match zS P ty with
      | some el=>PV.f (.l el 0 [])
      | none=>fvv (.slice none 0 0))=_
     rw[hel];rfl
  ·cases e
 ·rename_i el t el' k' xs;split at e
  ·rename_i y hy;cases e;unfold zAX at hy;split at hy
   ·rename_i k _
    cases hc:(Nat.beq el' el&&decide (k'=k)) with
    | false=>rw[hc] at hy;cases hy
    | true =>
      rw[hc] at hy;rw[zOG] at hc;have h1:el'=el:=zOH hc.1;have h2:k'=k:=by simpa using hc.2
      subst h1 h2;simp only[cond_true] at hy;split at hy
      ·rename_i e0 he0
       cases hc2:Nat.beq e0 el' with
       | false=>rw[hc2] at hy;cases hy
       | true =>
         rw[hc2] at hy;cases hy;have h3:e0=el':=zOH hc2;subst h3;refine⟨fvo e0 k' xs,by simp only[SV.enc];rfl,?_,rfl,.refl _,ho⟩
         cases xs with
         | nil =>
           show (match zS P ty with
            | some el=>PV.f (.l el 0 [])
            | none=>fvv (.slice none 0 0))=_
           rw[he0];rfl
         | cons x xs=>rfl
      ·cases hy
   ·cases hy
  ·cases e
 ·obtain⟨zMQ,e⟩:t.nol=true∧qW9 t v h=some (x,h'):=by
   cases hn:t.nol with
   | true=>rw[hn] at e;exact⟨rfl,e⟩
   | false=>rw[hn] at e;cases e
  unfold qW9 at e;split at e
  ·rename_i y hy;cases e;obtain⟨h1,h2⟩:=tL hy;have h3:(t.one&&t.nol)=true:=by rw[h2,zMQ];rfl
   exact⟨_,by rw[h1];rfl,nV h3,h3,.refl _,ho⟩
  ·cases e
def zCO (P:Program)(ty:TypeId)(t:Ty)(v:SV)(h:SH):Option (t.sem×SH):=cond (Gc.ol ty) (qW9 t v h) (qZH P ty t v h)
theorem q4T {t:Ty}{x:t.sem}(ho:OkH P h)(hv:v.ok h)(e:zCO P ty t v h=some (x,h')) :
 ∃ y,fz1 P 4 (qD h.l) v.enc=some (y,qD h'.l)∧rtC P ty (.f y)=.f (t.fv x)∧rtC P ty (.f (t.fv x))=.f (t.fv x)∧t.one=true∧Keep h h'∧OkH P h':=by
 unfold zCO at e;unfold rtC
 cases hc:Gc.ol ty with
 | true =>
   rw[hc] at e;simp only[cond_true] at e ⊢;unfold qW9 at e;split at e
   ·rename_i y hy;cases e;obtain⟨h1,h2⟩:=tL hy;exact⟨_,by rw[h1];rfl,rfl,trivial,h2,.refl _,ho⟩
   ·cases e
 | false =>
   rw[hc] at e;simp only[cond_false] at e ⊢;obtain⟨y,a1,a2,a3,a4,a5⟩:=qOA ho hv e;exact⟨y,a1,a2,nV a3,(by rw[zOG] at a3;exact a3.1),a4,a5⟩
def qHI (P:Program)(t:Ty)(tys:List TypeId)(l:List SV)(h:SH):Option (t.sem×List TypeId×List SV×SH):=match tys,l with
 | ty::tys,v::l=>(match zCO P ty t v h with
   | some (x,h')=>some (x,tys,l,h')
   | none=>none)
 | _,_=>none
def Ty.zH0 (P:Program):(t:Ty)->List TypeId->List SV->SH->Option (t.sem×List TypeId×List SV×SH)
 | .unit,tys,l,h=>some ((),tys,l,h)
 | .pair a b,tys,l,h=>match a.zH0 P tys l h with
   | some (x,zIN,l1,h1)=>(match b.zH0 P zIN l1 h1 with
     | some (y,zLF,l2,h2)=>some ((x,y),zLF,l2,h2)
     | none=>none)
   | none=>none
 | .int k,tys,l,h=>qHI P (.int k) tys l h
 | .bool,tys,l,h=>qHI P .bool tys l h
 | .str,tys,l,h=>qHI P .str tys l h
 | .raw,tys,l,h=>qHI P .raw tys l h
 | .ol el k,tys,l,h=>qHI P (.ol el k) tys l h
 | .nif,tys,l,h=>qHI P .nif tys l h
 | .list el t,tys,l,h=>qHI P (.list el t) tys l h
def zD4 (P:Program)(t:Ty)(tys:List TypeId)(l:List SV)(h:SH)(x:t.sem)(zFF:List TypeId)(l':List SV)(h':SH):Prop :=
 okL h' l'∧Keep h h'∧OkH P h'∧∃ ys:List FV,(∀ zs p,tH (fz1 P 4) (qB l') (qD h'.l)=some (zs,p)->tH (fz1 P 4) (qB l) (qD h.l)=some (ys++zs,p)) ∧
  ∀ zs:List PV,rtL (rtC P) tys (ys.map .f++zs)=(t.cells x).map .f++rtL (rtC P) zFF zs∧rtL (rtC P) tys ((t.cells x).map .f++zs)=(t.cells x).map .f++rtL (rtC P) zFF zs
theorem gP {t:Ty}{tys zFF:List TypeId}{l l':List SV}{x:t.sem}(ho:OkH P h)(hl:okL h l)(e:qHI P t tys l h=some (x,zFF,l',h')):zD4 P t tys l h x zFF l' h':=by
 unfold qHI at e;split at e
 ·rename_i ty tys v l;split at e
  ·rename_i y h1 hd;cases e;simp only[okL] at hl;obtain⟨y,a1,a2,a2',a3,a4,a5⟩:=q4T ho hl.1 hd;refine⟨qI a4 hl.2,a4,a5,[y],fun zs p hz=>?_,fun zs=>⟨?_,?_⟩⟩
   ·simp only[qB,tH,a1,hz];rfl
   ·show rtC P ty (.f y)::rtL (rtC P) _ zs=_;rw[a2,Ty.cells_one a3];rfl
   ·rw[Ty.cells_one a3];show rtC P ty (.f (t.fv _))::rtL (rtC P) _ zs=_;rw[a2'];rfl
  ·cases e
 ·cases e
theorem qBL:∀ {t:Ty} {tys zFF:List TypeId} {l l':List SV} {h:SH} {x:t.sem} {h':SH},OkH P h->okL h l->t.zH0 P tys l h=some (x,zFF,l',h')->zD4 P t tys l h x zFF l' h'
 | .unit,tys,zFF,l,l',h,x,h',ho,hl,e=>by
   cases e;exact⟨hl,.refl _,ho,[],fun zs p hz=>hz,fun zs=>⟨rfl,rfl⟩⟩
 | .int k,tys,zFF,l,l',h,x,h',ho,hl,e=>gP ho hl e
 | .bool,tys,zFF,l,l',h,x,h',ho,hl,e=>gP ho hl e
 | .str,tys,zFF,l,l',h,x,h',ho,hl,e=>gP ho hl e
 | .raw,tys,zFF,l,l',h,x,h',ho,hl,e=>gP ho hl e
 | .ol _ _,tys,zFF,l,l',h,x,h',ho,hl,e=>gP ho hl e
 | .nif,tys,zFF,l,l',h,x,h',ho,hl,e=>gP ho hl e
 | .list el t,tys,zFF,l,l',h,x,h',ho,hl,e=>gP ho hl e
 | .pair a b,tys,zFF,l,l',h,x,h',ho,hl,e=>by
   unfold Ty.zH0 at e;split at e
   ·rename_i x1 zIN l1 h1 hd1;split at e
    ·rename_i y zLF l2 h2 hd2;cases e;obtain⟨a1,a2,a3,ys,a4,a5⟩:=qBL ho hl hd1;obtain⟨b1,b2,b3,zs,b4,b5⟩:=qBL a3 a1 hd2;refine⟨b1,a2.trans b2,b3,ys++zs,fun us p hu=>?_,fun us=>⟨?_,?_⟩⟩
     ·rw[zPE];exact a4 _ _ (b4 _ _ hu)
     ·rw[zPS,zPE,(a5 _).1,(b5 _).1];show _=(a.cells x1++b.cells y).map PV.f++_;rw[zPS,zPE]
     ·show rtL (rtC P) _ ((a.cells x1++b.cells y).map PV.f++us)=(a.cells x1++b.cells y).map PV.f++_;rw[zPS,zPE,(a5 _).2,(b5 _).2,zPE]
    ·cases e
   ·cases e
def q4S (P:Program)(ty:TypeId)(t:Ty)(v:SV)(h:SH):Option (t.sem×SH):=cond t.one (match v with
 | .agg _=>none
 | v=>qZH P ty t v h) (match v with
 | .agg l=>(match t.zH0 P (vT P 8 ty) l h with
   | some (x,_,[],h')=>some (x,h')
   | _=>none)
 | _=>none)
theorem qB0 {t:Ty}{x:t.sem}(ho:OkH P h)(hv:v.ok h)(e:q4S P ty t v h=some (x,h')) :
 ∃ y,fzP P (qD h.l) v.enc=some (y,qD h'.l)∧rt1 P ty y=t.pv x∧Keep h h'∧OkH P h'∧rt1 P ty (t.pv x)=t.pv x:=by
 unfold q4S at e
 cases ht:t.one with
 | true =>
   rw[ht] at e;simp only[cond_true] at e;split at e
   ·cases e
   ·rename_i hna;obtain⟨y,h1,h2,h3,h4,h5⟩:=qOA ho hv e
    have hpv:rt1 P ty (t.pv x)=t.pv x:=by
     unfold Ty.pv;rw[ht];exact nV h3
    refine⟨.f y,?_,?_,h4,h5,hpv⟩
    ·cases v with
     | agg l=>exact absurd rfl (hna l)
     | opt b k o w=>cases b <;> (simp only[SV.enc,fvv,fzP,cond_true,cond_false] at h1 ⊢;rw[h1])
     | _=>simp only[SV.enc,fvv,fzP] at h1 ⊢;rw[h1]
    ·show rt0 P ty (.f y)=_;rw[h2];unfold Ty.pv;rw[ht];rfl
 | false =>
   rw[ht] at e;simp only[cond_false] at e;split at e
   ·rename_i l;split at e
    ·rename_i x1 zIN h1 hd;cases e;simp only[SV.ok] at hv;obtain⟨a1,a2,a3,ys,a4,a5⟩:=qBL ho hv hd
     have hpv:rt1 P ty (t.pv x)=t.pv x:=by
      unfold Ty.pv;rw[ht];show PV.agg (rtL (rtC P) (vT P 8 ty) ((t.cells x).map .f))=_;have:=(a5 []).2;rw[zQB] at this;rw[this];cases zIN <;> simp[rtL]
     refine⟨.agg (ys.map .f),?_,?_,a2,a3,hpv⟩
     ·have:=a4 [] (qD h'.l) (by simp[qB,tH]);simp only[SV.enc,fzP,this,zQB]
     ·show PV.agg (rtL (rtC P) (vT P 8 ty) (ys.map .f))=_;have:=(a5 []).1;rw[zQB] at this;rw[this];unfold Ty.pv;rw[ht];cases zIN <;> simp[rtL]
    ·cases e
   ·cases e
def vL (P:Program):List TypeId->(ts:List Ty)->List SV->SH->Option (TyL ts×SH)
 | _,[],[],h=>some ((),h)
 | ty::_,[t],[v],h=>q4S P ty t v h
 | ty::tys,t::u::ts,v::vs,h=>match q4S P ty t v h with
   | some (x,h1)=>(match vL P tys (u::ts) vs h1 with
     | some (y,h2)=>some ((x,y),h2)
     | none=>none)
   | none=>none
 | _,_,_,_=>none
theorem dL:∀ {tys:List TypeId} {ts:List Ty} {vs:List SV} {h:SH} {x:TyL ts} {h':SH},OkH P h->okL h vs->vL P tys ts vs h=some (x,h') ->
 ∃ ys,fzA P (qB vs) (qD h.l)=some (ys,qD h'.l)∧rtL (rt1 P) tys ys=pvL ts x∧Keep h h'∧OkH P h'
 | tys,[],[],h,x,h',ho,hv,e=>by
   unfold vL at e;cases e;refine⟨[],rfl,?_,.refl _,ho⟩;cases tys <;> rfl
 | ty::tys,[t],[v],h,x,h',ho,hv,e=>by
   unfold vL at e;simp only[okL] at hv;obtain⟨y,h1,h2,h3,h4,_⟩:=qB0 ho hv.1 e;refine⟨[y],?_,?_,h3,h4⟩
   ·simp only[qB,fzA,h1]
   ·show rt1 P ty y::rtL (rt1 P) tys []=[t.pv x];rw[h2];cases tys <;> rfl
 | ty::tys,t::u::ts,v::vs,h,x,h',ho,hv,e=>by
   unfold vL at e;simp only[okL] at hv;split at e
   ·rename_i x1 h1 hd;split at e
    ·rename_i y1 h2 hd2;cases e;obtain⟨y,a1,a2,a3,a4,_⟩:=qB0 ho hv.1 hd;obtain⟨ys,b1,b2,b3,b4⟩:=dL a4 (qI a3 hv.2) hd2;refine⟨y::ys,?_,?_,a3.trans b3,b4⟩
     ·simp only[qB,fzA,a1,b1]
     ·show rt1 P ty y::rtL (rt1 P) tys ys=t.pv x1::pvL (u::ts) y1;rw[a2,b2]
    ·cases e
   ·cases e
 | [],[_],[_],_,_,_,_,_,e=>by unfold vL at e;cases e
 | [],_::_::_,_::_,_,_,_,_,_,e=>by unfold vL at e;cases e
 | tys,[],_::_,_,_,_,_,_,e=>by cases tys <;> (unfold vL at e;cases e)
 | tys,_::ts,[],_,_,_,_,_,e=>by cases tys <;> cases ts <;> (unfold vL at e;cases e)
 | tys,[_],_::_::_,_,_,_,_,_,e=>by cases tys <;> (unfold vL at e;cases e)
def Ty.sv (t:Ty)(x:t.sem):SV:=cond t.one (.d t x) (.agg (t.svs x))
theorem o8 (t:Ty)(x:t.sem):(t.sv x).enc=t.pv x:=by
 unfold Ty.sv Ty.pv;cases t.one <;> simp[SV.enc,gX]
omit [Yl] in
theorem qIL (t:Ty)(x:t.sem):(t.sv x).ok h:=by
 unfold Ty.sv;cases t.one
 ·simp only[cond_false,SV.ok];exact qDR t x
 ·simp[SV.ok]
def svL:(ts:List Ty)->TyL ts->List SV
 | [],_=>[]
 | [t],x=>[t.sv x]
 | t::u::ts,x=>t.sv x.1::svL (u::ts) x.2
theorem qBJ:∀ (ts:List Ty) (x:TyL ts),qB (svL ts x)=pvL ts x
 | [],_=>by simp[svL,pvL,qB]
 | [t],x=>by simp[svL,pvL,qB,o8]
 | t::u::ts,x=>by
   show qB (t.sv x.1::svL (u::ts) x.2)=t.pv x.1::pvL (u::ts) x.2;simp only[qB,o8,qBJ (u::ts)]
omit [Yl] in
theorem qCM:∀ (ts:List Ty) (x:TyL ts),okL h (svL ts x)
 | [],_=>by simp[svL,okL]
 | [t],x=>by simp[svL,okL,qIL]
 | t::u::ts,x=>by
   show okL h (t.sv x.1::svL (u::ts) x.2);simp only[okL];exact⟨qIL t x.1,qCM (u::ts) x.2⟩
def qH2 (ts:List Ty)(x:TyL ts):SV:=match svL ts x with
 | [v]=>v
 | vs=>.tup vs
theorem qI3 (ts:List Ty)(x:TyL ts):(qH2 ts x).enc=jD ts x:=by
 unfold qH2 jD;rw[<-qBJ]
 match svL ts x with
 | []=>simp[qB,qC2,SV.enc]
 | [v]=>simp[qB,qC2]
 | a::b::l=>simp[qB,qC2,SV.enc]
omit [Yl] in
theorem qQ4 (ts:List Ty)(x:TyL ts):(qH2 ts x).ok h:=by
 unfold qH2;have:=qCM (h:=h) ts x;split
 ·rename_i v hv;rw[hv] at this;simp only[okL] at this;exact this.1
 ·simp only[SV.ok];exact this
def qP0 (tab:uT)(T:yE):Prop:=∀ g ent,slT g T=some ent->∀ x,tab g (pvL ent.as x)=(ent.F x).map (jD ent.rs)
def okc:FV->Bool
 | .v (.slice _ _ _)=>false
 | .v _=>true
 | .l _ _ _=>false
def _root_.Go.Sv.Ty.pln:Ty->Bool
 | .int _ | .bool | .str | .unit | .nif=>true
 | .pair a b=>Go.Sv.Ty.pln a&&Go.Sv.Ty.pln b
 | _=>false
omit [Yl] in
theorem nJ:∀ (t:Ty) (x:t.sem),(t.cells x).all okc=t.pln
 | .int _,_=>rfl
 | .bool,_=>rfl
 | .str,_=>rfl
 | .unit,_=>rfl
 | .nif,_=>rfl
 | .raw,_=>rfl
 | .list _ _,_=>rfl
 | .ol _ _,xs=>by cases xs <;> rfl
 | .pair a b,x=>by
   show (a.cells x.1++b.cells x.2).all okc=(a.pln&&b.pln);rw[zR5,nJ a,nJ b]
omit [Yl] in
theorem qT5:∀ (cs:List FV),((qJ8 (cs.map .f)).isSome&&(cs.map PV.f).all q7N)=cs.all okc
 | []=>rfl
 | c::cs=>by
   rw[zPY,<-qT5 cs,zOZ,zPY]
   cases c with
   | l el n xs=>rfl
   | v x =>
     have e2:q7N (.f (.v x))=okc (.v x):=by cases x <;> rfl
     rw[e2,show qJ8 (.f (.v x)::cs.map .f)=(match qJ8 (cs.map .f) with
      | some vs=>some (x::vs)
      | none=>none) from rfl]
     cases qJ8 (cs.map PV.f) with
     | none=>simp only[zSY,Bool.false_and,Bool.and_false]
     | some vs=>simp only[zR6,zRQ]
omit [Yl] in
theorem qHU (t:Ty)(x:t.sem):vD (t.pv x)=t.pln∧((pl (t.pv x)).isSome&&qTK (t.pv x))=t.pln:=by
 unfold Ty.pv
 cases ht:t.one with
 | true =>
   simp only[cond_true];have:=nJ t x;rw[Ty.cells_one ht] at this;rw[<-this,zPY,List.all_nil,zQS]
   cases hv:t.fv x with
   | l el n xs=>exact⟨rfl,rfl⟩
   | v y=>cases y <;> exact⟨rfl,rfl⟩
 | false =>
   simp only[cond_false];have:=qT5 (t.cells x);rw[nJ] at this;refine⟨this,?_⟩;rw[<-this]
   show ((match qJ8 ((t.cells x).map .f) with
    | some vs=>some (Value.agg vs.toArray)
    | none=>none).isSome&&((t.cells x).map PV.f).all q7N)=_
   cases qJ8 ((t.cells x).map .f) <;> rfl
def q9M (ts:List Ty):Bool:=ts.all Ty.pln
omit [Yl] in
theorem qIN:∀ (ts:List Ty) (x:TyL ts),((plL (pvL ts x)).isSome&&(pvL ts x).all qTK)=q9M ts
 | [],_=>rfl
 | [t],x=>by
   show ((match pl (t.pv x) with
    | some v=>(match plL [] with
      | some vs=>some (v::vs)
      | none=>none)
    | none=>none).isSome&&((t.pv x)::[]).all qTK)=(t.pln&&true)
   rw[<- (qHU t x).2,zPY];cases pl (t.pv x) <;> simp[plL]
 | t::u::ts,x=>by
   show ((match pl (t.pv x.1) with
    | some v=>(match plL (pvL (u::ts) x.2) with
      | some vs=>some (v::vs)
      | none=>none)
    | none=>none).isSome&&((t.pv x.1)::pvL (u::ts) x.2).all qTK)=(t.pln&&q9M (u::ts))
   rw[<- (qHU t x.1).2,<-qIN (u::ts) x.2,zPY]
   cases pl (t.pv x.1) with
   | none=>simp
   | some v=>cases plL (pvL (u::ts) x.2) with
     | none=>simp
     | some vs=>simp
omit [Yl] in
theorem qJF (ts:List Ty)(x:TyL ts):vD (jD ts x)=q9M ts:=by
 unfold jD
 match ts,x with
 | [],x=>rfl
 | [t],x =>
   show vD (t.pv x)=(t.pln&&true);rw[(qHU t x).1,zQS]
 | t::u::ts,x =>
   have:=qIN (t::u::ts) x;cases ts <;> exact this
def qRP (P:Program)(T:yE)(d:Bool)(g:FuncId)(as:List SV)(h:SH)(K:SV->SH->zEY R):zEY R:=match slT g T,P.funcs[g]? with
 | some ent,some fn=>(match vL P fn.params.toList ent.as as h with
   | some (x,h1)=>.bind (ent.F x) fun y=>cond d (cond (q9M ent.rs||(qB as).all qKP) (K (qH2 ent.rs y) h) .fail) (K (qH2 ent.rs y) (cond (q9M ent.rs) h h1))
   | none=>.fail)
 | _,_=>.fail
theorem q1U {T:yE}(ht:qP0 tab T){K:SV->SH->zEY R}(ho:OkH P h)(ha:okL h as)(e:(qRP P T false g as h K).run=some r) :
 ∃ v h',aB P tab g (qB as) (qD h.l)=.ok v.enc (qD h'.l)∧Post P h h' v∧(K v h').run=some r:=by
 unfold qRP at e;split at e
 ·rename_i ent fn hent hfn;split at e
  ·rename_i x h1 hx;obtain⟨y,hy,e1⟩:=run_bind e;obtain⟨ys,a1,a2,a3,a4⟩:=dL ho ha hx;have e2:(K (qH2 ent.rs y) (cond (vD (jD ent.rs y)) h h1)).run=some r:=by rw[qJF];exact e1
   refine⟨_,_,?_,⟨?_,?_,qQ4 _ _⟩,e2⟩
   ·unfold aB;rw[a1];simp only;rw[show rtA P g ys=pvL ent.as x by unfold rtA;rw[hfn];exact a2,ht g ent hent x,hy];simp only[zOW,qI3];cases vD (jD ent.rs y) <;> rfl
   ·cases vD (jD ent.rs y)
    ·exact a3
    ·exact .refl _
   ·cases vD (jD ent.rs y)
    ·exact a4
    ·exact ho
  ·cases e
 ·cases e
theorem qVL {T:yE}(ht:qP0 tab T){K:SV->SH->zEY R}(ho:OkH P h)(ha:okL h as)(e:(qRP P T true g as h K).run=some r) :
 ∃ v h',pI P tab g (qB as) (qD h.l)=.ok v.enc (qD h'.l)∧Post P h h' v∧(K v h').run=some r:=by
 unfold qRP at e;split at e
 ·rename_i ent fn hent hfn;split at e
  ·rename_i x h1 hx;obtain⟨y,hy,e1⟩:=run_bind e;obtain⟨ys,a1,a2,a3,a4⟩:=dL ho ha hx;obtain⟨c,e2⟩:=qG (show (cond (vD (jD ent.rs y)||(qB as).all qKP) (K (qH2 ent.rs y) h) .fail:zEY R).run=some r by rw[qJF];exact e1);refine⟨_,_,?_,⟨.refl _,ho,qQ4 _ _⟩,e2⟩;unfold pI;rw[a1];simp only;rw[show rtA P g ys=pvL ent.as x by unfold rtA;rw[hfn];exact a2,ht g ent hent x,hy];simp only[zOW,qI3,c,cond_true]
  ·cases e
 ·cases e
def rX (fv:SV)(args:List SV):Option (FuncId×List SV):=match fv with
 | .c (.func (.func g) a c)=>cond (a.toList.isEmpty&&c.toList.isEmpty) (some (g,args)) none
 | .fn g first cap=>some (g,first++(args++cap))
 | _=>none
theorem bP {fv:SV}{args:List SV}(hf:fv.ok h)(ha:okL h args)(e:rX fv args=some (g,as)):target fv.enc (qB args)=some (g,qB as)∧okL h as:=by
 unfold rX at e;split at e
 ·rename_i g' a c
  cases hc:(a.toList.isEmpty&&c.toList.isEmpty) with
  | false=>rw[hc] at e;cases e
  | true =>
    rw[hc] at e;cases e;exact⟨by simp only[target,SV.enc,fvv,hc,cond_true],ha⟩
 ·rename_i g' first cap
  cases e;simp only[SV.ok] at hf;exact⟨by simp only[target,SV.enc,bJ],gZ hf.1 (gZ ha hf.2)⟩
 ·cases e
def q3H (P:Program)(T:yE)(d:Bool)(f:SV)(args:List SV)(h:SH)(K:SV->SH->zEY R):zEY R:=match rX f args with
 | some (g,as)=>qRP P T d g as h K
 | none=>.fail
def q2I (P:Program)(T:yE)(d:Bool)(k:Nat)(o:Oper)(env:List SV)(h:SH)(K:SV->SH->zEY R):zEY R:=match o.op with
 | .call ⟨.value f,args,_⟩=>q3H P T d (kG env f) (dQ env args) h K
 | _=>sop P o env k h K
def qU8 (P:Program)(G:Nat->Bool)(CI:CIT):Prop:=∀ {R:Type} (nm:Nm) (f:FuncId) (as:List SV) (h:SH) (K:SV->SH->zEY R) (r:R),OkH P h->okL h as->(CI R nm f as h K).run=some r ->
 qDE P G nm f (qB as) (qD h.l) fun v p=>∃ v' h',v=v'.enc∧p=qD h'.l∧Post P h h' v'∧(K v' h').run=some r
def qQC (p:Nat->Bool)(env:List SV):List (Nat×SO)->Bool
 | []=>true
 | (k,_)::l=>(!p k||yA k (qB env))&&qQC p env l
theorem qJT {p:Nat->Bool}{env:List SV}:∀ {l:List (Nat×SO)},qQC p env l=true->clean p (qB env) (qD l)=true
 | [],_=>rfl
 | (k,o)::l,h=>by
   have h:((!p k||yA k (qB env))&&qQC p env l)=true:=h;show ((!p k||yA k (qB env))&&clean p (qB env) (qD l))=true;rw[zOG] at h ⊢;exact⟨h.1,qJT h.2⟩
section
variable {Γ:Type}
def q3B (p:Nat->Bool):List (Nat×SO)->Bool
 | []=>true
 | (_,.cells _ _ l)::r=>rZ p (qB l)&&q3B p r
 | (_,.list _ _ _ _ _ _)::r=>q3B p r
 | (_,.spc _ (.mit _ j _ _ _))::r=>!(p j)&&q3B p r
 | (_,.spc _ (.map _))::r=>q3B p r
 | (_,.spc _ (.iter _ _))::r=>q3B p r
 | (_,.spc _ (.arr _ _ _))::r=>q3B p r
theorem qX9 (p:Nat->Bool):∀ (cs:List FV),rZ p (cs.map .f)=true
 | []=>by simp[rZ]
 | c::cs=>by simp[rZ,noP,qX9 p cs]
theorem qXK (p:Nat->Bool):∀ (l:List Nat),rZ p (l.map iv)=true
 | []=>by simp[rZ]
 | c::cs=>by
   show (true&&rZ p (cs.map iv))=true;rw[qXK p cs];rfl
theorem q0L (p:Nat->Bool)(j si la:Nat)(seen:List Nat):rZ p (qMT (.mp j) si la seen)=!(p j):=by
 show (!(p j)&&(true&&(true&&(rZ p (seen.map iv)&&true))))=_;rw[qXK];simp
theorem q08 (p:Nat->Bool)(c:Nat):∀ (es:List MapEntry),rZ p (wU c es)=true:=fun es=>by
 have:∀ es:List MapEntry,rZ p (qDD es)=true:=fun es=>by
  induction es with
  | nil=>rfl
  | cons e es ih=>exact ih
 exact this es
theorem eT {p:Nat->Bool}:∀ {l:List (Nat×SO)},q2M p (qD l)=q3B p l
 | []=>rfl
 | (j,.cells el w l)::r=>by
   show (rZ p (qB l)&&q2M p (qD r))=_;rw[eT];rfl
 | (j,.list el gr g w t xs)::r=>by
   show (rZ p ((xs.flatMap t.cells).map .f)&&q2M p (qD r))=_;rw[qX9,eT];rfl
 | (j,.spc w (.mit t i si la seen))::r=>by
   show (rZ p (qMT (.mp i) si la seen)&&q2M p (qD r))=_;rw[q0L,eT];rfl
 | (j,.spc w (.map es))::r=>by
   show (rZ p (wU _ _)&&q2M p (qD r))=_;rw[q08,eT];rfl
 | (j,.spc w (.iter s pos))::r=>by
   show (rZ p (qDS s pos)&&q2M p (qD r))=_;rw[show rZ p (qDS s pos)=true from rfl,eT];rfl
 | (j,.spc w (.arr el ik xs))::r=>by
   show (rZ p (xs.map fun x=>fvv (.int ik x))&&q2M p (qD r))=_;rw[show (xs.map fun x=>fvv (.int ik x))=(xs.map fun x=>FV.v (.int ik x)).map .f by rw[zQP];rfl,qX9,eT];rfl
def q8T (nm:Nm)(j:FuncId)(env:List SV)(h:SH):Bool:=rZ (inB (nm.b+wid nm.b*1000*(j+1))) (qB env)&&(((qD h.l).all fun x=>!inB (nm.b+wid nm.b*1000*(j+1)) x.1||nm.p x.1)&&q3B (zD9 (nm.b+wid nm.b*1000*(j+1))) h.l)
theorem qLR {j:FuncId}{h:SH}:q8T nm j env h=q4G nm j (qB env) (qD h.l):=by
 unfold q8T q4G;rw[eT]
def q6S (nm:Nm)(g:FuncId)(env:List SV)(h:SH)(k:FuncId->zEY R):zEY R :=
 cond (q8T nm g env h) (k g) (cond (q8T nm (g+333) env h) (k (g+333)) (cond (q8T nm (g+666) env h) (k (g+666)) (k g)))
theorem qZ9 {h:SH}{k:FuncId->zEY R}:q6S nm g env h k=k (qJC nm g (qB env) (qD h.l)):=by
 unfold q6S qJC;rw[qLR,qLR,qLR];cases q4G nm g (qB env) (qD h.l)
 ·cases q4G nm (g+333) (qB env) (qD h.l)
  ·cases q4G nm (g+666) (qB env) (qD h.l) <;> rfl
  ·rfl
 ·rfl
def q4C (P:Program)(T:yE)(CI:CIT)(Y:YI Γ)(nm:Nm)(f:SV)(args:List SV)(g:Γ)(env:List SV)(h:SH)(K:Γ->SV->SH->zEY R):zEY R:=match f with
 | .yv=>(match vL P Y.yt Y.ys args h with
   | some (y,h1)=>.bind (Y.stp g y) fun p=>K p.1 (.d .bool p.2) h1
   | none=>.fail)
 | f=>(match rX f args with
   | some (t,as)=>cond (slT t T).isSome (qRP P T false t as h (K g)) (q6S nm t env h fun j=>CI R (qTT nm j) t as h fun v h2=>cond (qQC (qTT nm j).p env h2.l) (K g v h2) .fail)
   | none=>.fail)
def q4B (P:Program)(T:yE)(CI:CIT)(Y:YI Γ)(nm:Nm)(o:Oper)(g:Γ)(env:List SV)(h:SH)(K:Γ->SV->SH->zEY R):zEY R:=match o.op with
 | .call ⟨.value f,args,_⟩=>q4C P T CI Y nm (kG env f) (dQ env args) g env h K
 | _=>zDU P o env (qH nm o.dst) h (K g)
def YOk (P:Program)(G:Nat->Bool)(w:Wld Γ)(Y:YI Γ):Prop:=∀ g y g' b,Y.stp g y=some (g',b)->qKQ P G w Yl.l g (pvL Y.ys y) g' b
end
theorem qI6 {T:yE}(ht:qP0 tab T){o:Oper}{K:SV->SH->zEY R}(ho:OkH P h)(he:okL h env)(e:(q2I P T true k o env h K).run=some r) :
 ∃ v h',zN P tab k o (qB env) (qD h.l)=.ok v.enc (qD h'.l)∧Post P h h' v∧(K v h').run=some r:=by
 unfold q2I at e;unfold zN;split at e
 ·rename_i f args ts hop;unfold q3H at e;split at e
  ·rename_i g as hst;obtain⟨h1,h2⟩:=bP (mG he f) (gW he args) hst;obtain⟨v,h',a1,a2,a3⟩:=qVL ht ho h2 e;refine⟨v,h',?_,a2,a3⟩;simp only[hop,qO,gD,h1];exact a1
  ·cases e
 ·rename_i hne;obtain⟨v,h',a1,a2,a3⟩:=q4J ho he e;refine⟨v,h',?_,a2,a3⟩;split
  ·rename_i f args ts hop;exact absurd hop (hne f args ts)
  ·rw[a1];rfl
end
end Go.Sv
namespace Go.Sv
open Go.Idl
variable {d:Option Tmp}{el:TypeId}{env:List SV}{h:SH}{o:Oper}{t:Ty}{v x:SV}
noncomputable section
variable [Gc]
variable [Frs]
variable [Yl]
variable {P:Program}{R:Type}{r:R}{tab:uT}{G:Nat->Bool}{nm:Nm}
omit [Yl] in
theorem zFB {Q Q':List PV->PHp->Prop}(hq:∀ e p,Q e p->Q' e p):∀ {t:PT},t.holds P G Q->t.holds P G Q'
 | .fail,h=>h.elim
 | .ret e p,h=>hq e p h
 | .chk c t,h=>⟨h.1,zFB hq h.2⟩
 | .call nm g args ph k,h=>by
   obtain⟨R,h1,h2⟩:=h;exact⟨R,h1,fun v p hr=>zFB hq (h2 v p hr)⟩
 | .rnd _ _ _ _,h=>h.elim
omit [Yl] in
theorem qVU (k:Nat):∀ (cs:List FV),yA k (cs.map .f)=true
 | []=>by simp[yA]
 | c::cs=>by simp[yA,noK,qVU k cs]
def qD2 (k:Nat):List (Nat×SO)->Bool
 | []=>true
 | (_,.cells _ _ l)::r=>yA k (qB l)&&qD2 k r
 | (_,.list _ _ _ _ _ _)::r=>qD2 k r
 | (_,.spc _ (.mit _ j _ _ _))::r=>!(k==j)&&qD2 k r
 | (_,.spc _ (.map _))::r=>qD2 k r
 | (_,.spc _ (.iter _ _))::r=>qD2 k r
 | (_,.spc _ (.arr _ _ _))::r=>qD2 k r
theorem qWX (k:Nat):∀ (l:List Nat),yA k (l.map iv)=true
 | []=>by simp[yA]
 | c::cs=>by
   show (true&&yA k (cs.map iv))=true;rw[qWX k cs];rfl
theorem qZC (k j si la:Nat)(seen:List Nat):yA k (qMT (.mp j) si la seen)=!(k==j):=by
 show (!(k==j)&&(true&&(true&&(yA k (seen.map iv)&&true))))=_;rw[qWX];simp
theorem jL {k:Nat}:∀ {l:List (Nat×SO)},qD2 k l=true->fT k (qD l)=true
 | [],_=>rfl
 | (j,.cells el w l)::r,h=>by
   simp only[qD2,zOG] at h;show (yA k (qB l)&&fT k (qD r))=true;rw[h.1,jL h.2];rfl
 | (j,.list el gr g w t xs)::r,h=>by
   simp only[qD2] at h;show (yA k ((xs.flatMap t.cells).map .f)&&fT k (qD r))=true;rw[qVU,jL h];rfl
 | (j,.spc w (.mit t i si la seen))::r,h=>by
   simp only[qD2,zOG] at h;show (yA k (qMT (.mp i) si la seen)&&fT k (qD r))=true;rw[qZC,h.1,jL h.2];rfl
 | (j,.spc w (.map es))::r,h=>by
   simp only[qD2] at h;show (yA k (wU _ _)&&fT k (qD r))=true;rw[qAN,jL h];rfl
 | (j,.spc w (.iter s pos))::r,h=>by
   simp only[qD2] at h;show (yA k (qDS s pos)&&fT k (qD r))=true;rw[show yA k (qDS s pos)=true from rfl,jL h];rfl
 | (j,.spc w (.arr el ik xs))::r,h=>by
   simp only[qD2] at h;show (yA k (xs.map fun x=>fvv (.int ik x))&&fT k (qD r))=true;rw[show (xs.map fun x=>fvv (.int ik x))=(xs.map fun x=>FV.v (.int ik x)).map .f by rw[zQP];rfl,qVU,jL h];rfl
def dO (env:List SV)(d:Option Tmp)(v:SV):List SV:=match d with
 | some t=>yR env t v
 | none=>env
theorem xZ (env:List SV)(t:Nat)(v:SV):qB (yR env t v)=yR (qB env) t v.enc:=by
 rw[qX,qX,zH,zH,List.map_set]
theorem jB (env:List SV)(d:Option Tmp)(v:SV):qB (dO env d v)=yO (qB env) d v.enc:=by
 cases d with
 | none=>rfl
 | some t=>exact xZ env t v
omit [Yl] in
theorem xG {t:Nat}(he:okL h env)(hv:v.ok h):okL h (yR env t v):=by
 rw[qX]
 exact zM.2 fun x hx=>by
  rcases List.mem_or_eq_of_mem_set hx with q | q
  ·exact zM.1 he x q
  ·rw[q];exact hv
omit [Yl] in
theorem vZ (he:okL h env)(hv:v.ok h):okL h (dO env d v):=by
 cases d with
 | none=>exact he
 | some t=>exact xG he hv
omit [Yl] in
theorem jI (env:List SV)(t:Nat)(v:SV):(yR env t v).length=env.length:=by rw[qX,zPR]
omit [Yl] in
theorem q1C (env:List SV)(d:Option Tmp)(v:SV):(dO env d v).length=env.length:=by
 cases d with
 | none=>rfl
 | some t=>exact jI env t v
theorem qPT {t:Nat}{w:SV}(h1:zL env t=some v)(h2:w.enc=v.enc):qB (yR env t w)=qB env:=by
 rw[xZ,qX];rw[qF] at h1;apply zP2;intro i;rw[zPA];by_cases e:t=i
 ·subst e;rw[if_pos rfl,zH,zOX,h1,zOS,if_pos (zOO.1 h1).1,h2];rfl
 ·rw[if_neg e]
def zJ (b w:Bool):Bool:=cond w b (!b)
omit [Yl] in
theorem qO1 (b w:Bool):zJ b w=(b==w):=by cases b <;> cases w <;> rfl
def qCH (ds:List (Option Tmp))(o:Oper)(env:List SV)(Y N:List SV->zEY R):zEY R:=match o.guard with
 | none=>Y env
 | some (j,w)=>(match qR3 ds j with
   | none=>N env
   | some t=>(match zL env t with
     | none=>.fail
     | some v=>(match asB v with
       | some b=>.ite (zJ b w) (Y (yR env t (.c (.bool w)))) (N (yR env t (.c (.bool (!w)))))
       | none=>(match v with
         | .tup []=>N env
         | _=>.fail))))
theorem rV {ds:List (Option Tmp)}{Y N:List SV->zEY R}(he:okL h env)(e:(qCH ds o env Y N).run=some r) :
 ∃ env',qB env'=qB env∧okL h env'∧env'.length=env.length∧((vH ds o (qB env)=some true∧(Y env').run=some r)∨(vH ds o (qB env)=some false∧(N env').run=some r)):=by
 unfold qCH at e;unfold vH;split at e
 ·rename_i hg;exact⟨env,rfl,he,rfl,.inl ⟨by rw[hg],e⟩⟩
 ·rename_i j w hg;rw[hg];simp only;split at e
  ·rename_i hd;exact⟨env,rfl,he,rfl,.inr ⟨by rw[hd];rfl,e⟩⟩
  ·rename_i t hd;rw[hd];simp only[qM9,qW];split at e
   ·cases e
   ·rename_i v hv;rw[hv];split at e
    ·rename_i b hb;have hbe:=rR hb
     rcases run_ite e with ⟨z,e1⟩ | ⟨z,e1⟩
     ·rw[qO1] at z;have:b=w:=by simpa using z
      subst this;refine⟨_,qPT hv (by rw[hbe];simp[SV.enc]),xG he (by simp[SV.ok]),jI _ _ _,.inl ⟨?_,e1⟩⟩;simp only[zOW,hbe,qA2,z]
     ·rw[qO1] at z
      have:b=!w:=by cases b <;> cases w <;> first | rfl | cases z
      refine⟨_,qPT hv (by rw[hbe,this];simp[SV.enc]),xG he (by simp[SV.ok]),jI _ _ _,.inr ⟨?_,e1⟩⟩;simp only[zOW,hbe,qA2,z]
    ·split at e
     ·exact⟨env,rfl,he,rfl,.inr ⟨by simp only[zOW,SV.enc,qB];exact qR2,e⟩⟩
     ·cases e
def qE8 (nm:Nm)(k:Nat)(env:List SV)(h:SH):Bool:=inP nm k&&(yA k (qB env)&&qD2 k h.l)
section
variable {Γ:Type}
def qYU (P:Program)(T:yE)(CI:CIT)(Y:YI Γ)(nm:Nm)(ds:List (Option Tmp)):List Oper->Γ->List SV->SH->(Γ->List SV->SH->zEY R)->zEY R
 | [],g,env,h,K=>K g env h
 | o::l,g,env,h,K=>qCH ds o env
    (fun env=>cond (cond (needs o.op) (qE8 nm (qH nm o.dst) env h) true) (q4B P T CI Y nm o g env h fun g v h'=>qYU P T CI Y nm ds l g (dO env o.dst v) h' K) .fail)
    (fun env=>qYU P T CI Y nm ds l g (dO env o.dst (.tup [])) h K)
end
def Ends (P:Program)(w:List (Option Tmp))(env:List SV)(h:SH)(env':List SV)(h':SH):Prop :=
 okL h' env'∧OkH P h'∧Keep h h'∧(∀ i,some i ∉ w->zL (qB env') i=zL (qB env) i)∧env'.length=env.length
theorem q4X {i:Nat}(h:d≠some i):zL (qB (dO env d v)) i=zL (qB env) i:=by
 cases d with
 | none=>rfl
 | some t =>
   show zL (qB (yR env t v)) i=_;rw[xZ,qX,qF,qF,zPA,if_neg (fun e=>h (by rw[e]))]
theorem Ends.step {o:Oper}{w:List (Option Tmp)}{env zE3:List SV}{h h1:SH}{v:SV}{env':List SV}{h':SH}(he:qB env=qB zE3)(hl:env.length=zE3.length)(hk:Keep h h1)(x:Ends P w (dO env o.dst v) h1 env' h'):Ends P (o.dst::w) zE3 h env' h' :=
 ⟨x.1,x.2.1,hk.trans x.2.2.1,fun i hi=>by
   rw[zO1,not_or] at hi
   rw[x.2.2.2.1 i hi.2,q4X (fun e=>hi.1 e.symm),he],by rw[x.2.2.2.2,q1C,hl]⟩
omit [Yl] in
theorem kK {Γ:Type}{w:Wld Γ}{Q Q':Γ->List PV->PHp->Prop}(hq:∀ g e p,Q g e p->Q' g e p):∀ {t:PT} {g:Γ},t.zFV P G w Q g->t.zFV P G w Q' g
 | .fail,_,h=>h.elim
 | .ret e p,g,h=>hq g e p h
 | .chk c t,g,h=>⟨h.1,kK hq h.2⟩
 | .call nm f args ph k,g,h=>by
   obtain⟨R,h1,h2⟩:=h;exact⟨R,h1,fun v p hr=>kK hq (h2 v p hr)⟩
 | .rnd l args ph k,g,h=>by
   obtain⟨zF3,tys,ph1,g',b,h1,h2,h3⟩:=h;exact⟨zF3,tys,ph1,g',b,h1,h2,kK hq h3⟩
def q0C (T:yE)(f:FuncId):Bool:=!(slT f T).isSome
theorem qFM {Γ:Type}{w:Wld Γ}{T:yE}{CI:CIT}{Y:YI Γ}(ht:qP0 tab T)(hci:qU8 P G CI)(hy:YOk P G w Y){ds:List (Option Tmp)}:∀ {l:List Oper} {g:Γ} {env:List SV} {h:SH} {K:Γ->List SV->SH->zEY R},OkH P h->okL h env->(qYU P T CI Y nm ds l g env h K).run=some r ->
 (pops P tab (q0C T) nm ds l (qB env) (qD h.l)).zFV P G w (fun g e p=>∃ env' h',e=qB env'∧p=qD h'.l∧Ends P (l.map (·.dst)) env h env' h'∧(K g env' h').run=some r) g
 | [],g,env,h,K,ho,he,e=>⟨env,h,rfl,rfl,⟨he,ho,.refl _,fun _ _=>rfl,rfl⟩,e⟩
 | o::l,g,env,h,K,ho,he,e=>by
   unfold qYU at e;obtain⟨zE4,q1,q2,q3,q4⟩:=rV he e;rw[qWL]
   rcases q4 with ⟨hw,e1⟩ | ⟨hw,e1⟩
   ·rw[hw,qZ8];obtain⟨c,e2⟩:=qG e1
    have next:∀ {g':Γ} {v:SV} {h':SH},Post P h h' v->(qYU P T CI Y nm ds l g' (dO zE4 o.dst v) h' K).run=some r->(pops P tab (q0C T) nm ds l (yO (qB env) o.dst v.enc) (qD h'.l)).zFV P G w (fun g e p=>∃ env' h',e=qB env'∧p=qD h'.l∧Ends P ((o::l).map (·.dst)) env h env' h'∧(K g env' h').run=some r) g':=fun {g' v h'} a2 a3=>by
     have ih:=qFM ht hci hy a2.2.1 (vZ (d:=o.dst) (qI a2.1 q2) a2.2.2) a3;rw[jB,q1] at ih;exact kK (fun g e p ⟨env',h',b1,b2,b3,b4⟩=>⟨env',h',b1,b2,Ends.step q1 q3 a2.1 b3,b4⟩) ih
    have chk:∀ {g':Γ} {v:SV} {h':SH},Post P h h' v->(qYU P T CI Y nm ds l g' (dO zE4 o.dst v) h' K).run=some r->(q8L (needs o.op) (qH nm o.dst) nm (qB env) (qD h.l) (pops P tab (q0C T) nm ds l (yO (qB env) o.dst v.enc) (qD h'.l))).zFV P G w (fun g e p=>∃ env' h',e=qB env'∧p=qD h'.l∧Ends P ((o::l).map (·.dst)) env h env' h'∧(K g env' h').run=some r) g':=fun {g' v h'} a2 a3=>by
     unfold q8L
     cases hn:needs o.op with
     | false=>exact next a2 a3
     | true =>
       rw[hn] at c;simp only[cond_true] at c ⊢;refine⟨?_,next a2 a3⟩;unfold qE8 at c;rw[q1] at c;simp only[zOG] at c;unfold fresh;rw[c.1,c.2.1,jL c.2.2];rfl
    unfold q4B at e2;split at e2
    ·rename_i f args ts hop
     have hpe:bB P tab (q0C T) (qH nm o.dst) o (qB env) (qD h.l)=oL P tab (q0C T) (kG zE4 f).enc (qB (dQ zE4 args)) (qD h.l):=by
      unfold bB;rw[<-q1];simp only[hop,qO,gD]
     rw[hpe];have hfv:=mG q2 f;have has:=gW q2 args
     revert e2 hfv
     generalize kG zE4 f=fv;intro e2 hfv;unfold q4C at e2;split at e2
     ·split at e2
      ·rename_i y h1 hd;obtain⟨p,hp,e3⟩:=run_bind e2;obtain⟨g',b⟩:=p;obtain⟨ys,a1,a2,a3,a4⟩:=dL ho has hd
       have:oL P tab (q0C T) (SV.enc .yv) (qB (dQ zE4 args)) (qD h.l)=.rnd Yl.l (qB (dQ zE4 args)) (qD h.l):=by
        simp only[SV.enc,oL]
       rw[this,qYR];refine⟨ys,Y.yt,qD h1.l,g',b,a1,?_,?_⟩
       ·rw[a2];exact hy _ _ _ _ hp
       ·have:=next (v:=.d .bool b) ⟨a3,a4,by simp[SV.ok]⟩ e3;simpa [SV.enc,Ty.fv,fvv] using this
      ·cases e2
     ·split at e2
      ·rename_i t as hst;obtain⟨h1,h2⟩:=bP hfv has hst;rw[qJX h1];unfold d9 q0C
       cases hsl:(slT t T).isSome with
       | true =>
         rw[hsl] at e2;simp only[cond_true] at e2;obtain⟨v,h',a1,a2,a3⟩:=q1U ht ho h2 e2;simp only[zSF,cond_false];rw[a1,qPO];exact chk a2 a3
       | false =>
         rw[hsl] at e2;simp only[cond_false] at e2;simp only[Bool.not_false,cond_true];rw[qRW];rw[qZ9,q1] at e2;refine⟨_,hci _ _ _ _ _ _ ho h2 e2,?_⟩;rintro v p ⟨v',h',rfl,rfl,a2,a3⟩;obtain⟨c2,a4⟩:=qG a3;have:=qJT c2;rw[q1] at this;exact⟨this,next a2 a4⟩
      ·cases e2
    ·rename_i hne;obtain⟨v,h',a1,a2,a3⟩:=q5U ho q2 e2;rw[q1] at a1
     have hpe:bB P tab (q0C T) (qH nm o.dst) o (qB env) (qD h.l)=.ok v.enc (qD h'.l):=by
      unfold bB;split
      ·rename_i f args ts hop;exact absurd hop (hne f args ts)
      ·rw[a1];rfl
     rw[hpe,qPO];exact chk a2 a3
   ·rw[hw,qT3];have ih:=qFM ht hci hy ho (vZ (d:=o.dst) (v:=.tup []) q2 (by simp[SV.ok,okL])) e1;rw[jB,q1] at ih;simp only[SV.enc,qB] at ih;exact kK (fun g e p ⟨env',h',b1,b2,b3,b4⟩=>⟨env',h',b1,b2,Ends.step q1 q3 (.refl _) b3,b4⟩) ih
def qXC (P:Program)(T:yE)(nm:Nm)(ds:List (Option Tmp))(b:DB)(zE3:List SV):Nat->List Oper->List SV->SH->List (Nat×List Nat)->List (Nat×List Nat)->List (Nat×Nat)->List (Nat×PV)->(List SV->SH->zEY R)->zEY R
 | i,[],env,h,E,F,N,V,K=>cond (mV b (qB zE3) E F N V) (K env h) .fail
 | i,o::l,env,h,E,F,N,V,K=>qCH ds o env
    (fun env=>cond (cond (needs o.op) (inP nm (qH nm o.dst)&&qD2 (qH nm o.dst) h.l) true) (q2I P T true (qH nm o.dst) o env h fun v h' =>
      qXC P T nm ds b zE3 (i+1) l (dO env o.dst v) h' (cond (zB o) ((i,wlT nm o (qB env))::E) E) (cond (zB o) F ((i,dlT o (qB env))::F)) (cond (needs o.op) ((i,qH nm o.dst)::N) N) ((i,v.enc)::V) K) .fail)
    (fun env=>qXC P T nm ds b zE3 (i+1) l (dO env o.dst (.tup [])) h E F N ((i,.tup [])::V) K)
theorem qHG {T:yE}(ht:qP0 tab T){ds:List (Option Tmp)}{b:DB}{zE3:List SV}:∀ {l:List Oper} {i:Nat} {env:List SV} {h:SH} {E F:List (Nat×List Nat)} {N:List (Nat×Nat)} {V:List (Nat×PV)} {K:List SV->SH->zEY R},OkH P h->okL h env->(qXC P T nm ds b zE3 i l env h E F N V K).run=some r ->
 (qIW P tab nm ds b (qB zE3) i l (qB env) (qD h.l) E F N V).holds P G fun e p=>∃ env' h',e=qB env'∧p=qD h'.l∧Ends P (l.map (·.dst)) env h env' h'∧(K env' h').run=some r
 | [],i,env,h,E,F,N,V,K,ho,he,e=>by
   unfold qXC at e;obtain⟨c,e1⟩:=qG e;rw[qZG];exact⟨c,env,h,rfl,rfl,⟨he,ho,.refl _,fun _ _=>rfl,rfl⟩,e1⟩
 | o::l,i,env,h,E,F,N,V,K,ho,he,e=>by
   unfold qXC at e;obtain⟨zE4,q1,q2,q3,q4⟩:=rV he e;rw[qXW]
   rcases q4 with ⟨hw,e1⟩ | ⟨hw,e1⟩
   ·rw[hw,qT8];obtain⟨c,e2⟩:=qG e1;obtain⟨v,h',a1,a2,a3⟩:=qI6 ht ho q2 e2;rw[q1] at a1;rw[a1,qYA];have ih:=qHG ht a2.2.1 (vZ (d:=o.dst) (qI a2.1 q2) a2.2.2) a3;rw[jB,q1] at ih;have ih2:=zFB (Q':=fun e p=>∃ env' h',e=qB env'∧p=qD h'.l∧Ends P ((o::l).map (·.dst)) env h env' h'∧(K env' h').run=some r) (fun e p ⟨env',h',b1,b2,b3,b4⟩=>⟨env',h',b1,b2,Ends.step q1 q3 a2.1 b3,b4⟩) ih;unfold qCF
    cases hn:needs o.op with
    | false=>rw[hn] at ih2;exact ih2
    | true =>
      rw[hn] at c ih2;simp only[cond_true] at c ⊢;refine⟨?_,ih2⟩;rw[zOG] at c;rw[c.1,jL c.2];rfl
   ·rw[hw,qSG];have ih:=qHG ht ho (vZ (d:=o.dst) (v:=.tup []) q2 (by simp[SV.ok,okL])) e1;rw[jB,q1] at ih;simp only[SV.enc,qB] at ih;exact zFB (fun e p ⟨env',h',b1,b2,b3,b4⟩=>⟨env',h',b1,b2,Ends.step q1 q3 (.refl _) b3,b4⟩) ih
def qK5 (R:List Nat)(l:List (Nat×SO)):List (Nat×SO):=R.filterMap fun k=>(slk k l).map fun o=>(k,o)
theorem qAT {l:List (Nat×SO)}:∀ (R:List Nat),qD (qK5 R l)=aV R (qD l)
 | []=>rfl
 | k::R=>by
   have ih:=qAT (l:=l) R;unfold qK5 aV at ih ⊢;rw[zSV,zSV,vC]
   cases hk:slk k l with
   | none=>simp only[zSS];exact ih
   | some o =>
     simp only[zOW];show (k,o.enc)::qD _=_;rw[ih]
def zCH (b:Array Nat)(h0:List (Nat×SO))(zE3:List PV)(E F:List (Nat×List Nat))(N:List (Nat×Nat))(V:List (Nat×PV))(O:List (Nat×List (Nat×SO))):Bool :=
 (E.all fun e=>(E++F).all fun f=>Nat.beq e.1 f.1||(qPY b e.1 f.1||f.2.all fun l=>!e.2.contains l)) &&
   N.all fun n=>yA n.2 zE3&&(qD2 n.2 h0&&((V.all fun v=>Nat.beq v.1 n.1||(vI b n.1 v.1||noK n.2 v.2))&&O.all fun c=>Nat.beq c.1 n.1||(vI b n.1 c.1||qD2 n.2 c.2)))
def q2X (O:List (Nat×List (Nat×SO))):List (Nat×PHp):=O.map fun c=>(c.1,qD c.2)
theorem q7L {b:Array Nat}{h0:List (Nat×SO)}{zE3:List PV}{E F:List (Nat×List Nat)}{N:List (Nat×Nat)}{V:List (Nat×PV)}{O:List (Nat×List (Nat×SO))}(h:zCH b h0 zE3 E F N V O=true):q8Q b (qD h0) zE3 E F N V (q2X O)=true:=by
 unfold zCH at h;unfold q8Q;rw[zOG] at h ⊢;refine⟨h.1,zOJ.2 fun n hn=>?_⟩;have h2:=zOJ.1 h.2 n hn;rw[zOG,zOG,zOG] at h2 ⊢;refine⟨h2.1,jL h2.2.1,h2.2.2.1,zOJ.2 fun c hc=>?_⟩;obtain⟨c0,hc0,rfl⟩:=zO6.1 hc;have h3:=zOJ.1 h2.2.2.2 c0 hc0;rw[zPL,zPL] at h3 ⊢;rcases h3 with h | h | h
 ·exact .inl h
 ·exact .inr (.inl h)
 ·exact .inr (.inr (jL h))
def q17 (l:List (Nat×SO)):PV->Bool
 | .own k _ _ _=>(match slk k l with
   | some (.list _ _ _ _ _ _)=>true
   | _=>false)
 | x=>qKP x
theorem qOU {l:List (Nat×SO)}{x:PV}(h:q17 l x=true):qJ3 (qD l) x=true:=by
 cases x with
 | own k t o n =>
   unfold q17 at h;unfold qJ3;simp only at h ⊢;rw[vC];split at h
   ·rename_i el gr g w u xs hk;rw[hk];simp only[zOW];show (((List.flatMap u.cells xs).map PV.f).all qS4)=true;rw[zOJ];intro z hz;obtain⟨y,_,rfl⟩:=zO6.1 hz;rfl
   ·cases h
 | _=>exact h
def qVC (o:Oper)(env:List PV):Bool:=match o.op with
 | .call ⟨.value f,args,_⟩=>(match target (qK env f) (args.toList.map (qK env)) with
   | some (g,_)=>(match Frs.fr g with
     | none=>true
     | some _=>false)
   | none=>true)
 | _=>true
theorem qZO {env:List PV}(h:qVC o env=true):pfr o env=none:=by
 cases hp:pfr o env with
 | none=>rfl
 | some q =>
   obtain⟨el,n,cs⟩:=q;obtain⟨f,args,ts,g,hop,ht,hg⟩:=qML hp;unfold qVC at h;rw[hop] at h;simp only[ht,hg] at h;cases h
def sfr (o:Oper)(env:List SV):Option SV:=match o.op with
 | .call ⟨.value f,args,_⟩=>(match rX (kG env f) (dQ env args) with
   | some (g,[.d (.list el t) xs])=>(match Frs.fr g with
     | some el'=>cond (Nat.beq el el') (some (.d (.list el t) xs)) none
     | none=>none)
   | _=>none)
 | _=>none
theorem zBQ (he:okL h env)(e:sfr o env=some x):∃ el t,∃ xs:List (Ty.sem t),x=.d (.list el t) xs∧pfr o (qB env)=some (el,xs.length,xs.flatMap t.cells):=by
 unfold sfr at e;split at e
 case h_2=>cases e
 rename_i f args ts hop;split at e
 case h_2=>cases e
 rename_i g el t xs hst;split at e
 case h_2=>cases e
 rename_i el' hg
 cases hc:Nat.beq el el' with
 | false=>rw[hc] at e;cases e
 | true =>
   rw[hc] at e;cases e;obtain⟨h1,_⟩:=bP (mG he f) (gW he args) hst;refine⟨el,t,xs,rfl,?_⟩;unfold pfr;rw[hop];simp only[qO,gD,h1,qB,SV.enc,Ty.fv,hg,hc,cond_true]
def frT (P:Program)(el:TypeId)(w:Nat)(t:Ty):Bool:=match szT P el,t with
 | some (s+1),.int k=>Nat.beq w (s+1)&&(kT P el&&decide (k=Frs.fk))
 | _,_=>false
theorem qS6 {k:IntKind}:∀ (xs:List Int),(List.flatMap (Ty.int k).cells xs).all (isK k)=true
 | []=>rfl
 | x::xs=>by
   rw[zO8,zR5,qS6 xs];simp[Ty.cells,isK]
theorem qYQ {xs:List t.sem}(h:frT P el t.w t=true)(hn:Nat.ble xs.length 1048576=true):qLF P el xs.length (xs.flatMap t.cells)=true:=by
 unfold frT at h;unfold qLF;split at h
 ·rename_i s k hs;rw[zOG,zOG] at h;have hw:=zOH h.1;have hk:k=Frs.fk:=of_decide_eq_true h.2.2;subst hk;rw[hs];have h1:(List.flatMap (Ty.int Frs.fk).cells xs).length=xs.length*(s+1):=by rw[zW,hw]
  have h2:(List.flatMap (Ty.int Frs.fk).cells xs).all (isK Frs.fk)=true:=qS6 xs;show (Nat.beq (xs.length*(s+1)) (List.flatMap (Ty.int Frs.fk).cells xs).length&&(Nat.ble xs.length 1048576&&(kT P el&&(List.flatMap (Ty.int Frs.fk).cells xs).all (isK Frs.fk))))=true;rw[h1,h2,hn,h.2.1,zSN];rfl
 ·cases h
theorem zCX {w:Nat}(h:frT P el w t=true):szT P el=some w∧0 < w:=by
 unfold frT at h;split at h
 ·rename_i s k hs;rw[zOG] at h;have hw:=zOH h.1;rw[hw];exact⟨hs,Nat.succ_pos _⟩
 ·cases h
def zCG (P:Program)(el:TypeId)(t:Ty)(v:SV)(h:SH):Option SV:=match v with
 | .own k g _=>(match q1M el t k g (fun xs=>xs) h with
   | some (xs,_)=>some (.d (.list el t) xs)
   | none=>none)
 | .sl k g _ o m=>(match q1M el t k g (fun xs=>(xs.drop o).take m) h with
   | some (xs,_)=>some (.d (.list el t) xs)
   | none=>none)
 | _=>none
def scp (P:Program)(o:Oper)(env:List SV)(h:SH):Option SV:=match o.op with
 | .call ⟨.value f,args,_⟩=>(match rX (kG env f) (dQ env args) with
   | some (g,[v])=>(match Frs.fr g with
     | some el=>(match qD3 P 8 el with
       | some t=>zCG P el t v h
       | none=>none)
     | none=>none)
   | _=>none)
 | _=>none
theorem q48 {t:Ty}(ho:OkH P h)(hv:v.ok h)(e:zCG P el t v h=some x):∃ xs:List t.sem,x=.d (.list el t) xs∧(∃ ph1,fzA P [v.enc] (qD h.l)=some ([.f (.l el xs.length (xs.flatMap t.cells))],ph1))∧∃ k t' o n,v.enc=.own k t' o n:=by
 have key:∀ {k n o m:Nat} {xs:List t.sem} {ph1:PHp},fz1 P 4 (qD h.l) (.own k n o m)=some ((Ty.list el t).fv xs,ph1)->fzA P [.own k n o m] (qD h.l)=some ([.f (.l el xs.length (xs.flatMap t.cells))],ph1):=fun {k n o m xs ph1} hz=>by
  unfold fzA fzP;simp only[hz,fzA];rfl
 unfold zCG at e;split at e
 ·rename_i k g n;split at e
  ·rename_i xs h' hd;cases e;simp only[SV.ok] at hv;obtain⟨h1,_⟩:=qFJ (ty:=0) (n:=n) (o:=0) (m:=n) ho hv (by omega) (fun xs hl=>by rw[zP1,<-hl,zRA]) hd;exact⟨xs,rfl,⟨_,by simp only[SV.enc];exact key h1⟩,_,_,_,_,by simp only[SV.enc];rfl⟩
  ·cases e
 ·rename_i k g n o m;split at e
  ·rename_i xs h' hd;cases e;simp only[SV.ok] at hv;obtain⟨h1,_⟩:=qFJ (ty:=0) (n:=n) (o:=o) (m:=m) ho hv.1 hv.2 (fun xs hl=>rfl) hd;exact⟨xs,rfl,⟨_,by simp only[SV.enc];exact key h1⟩,_,_,_,_,by simp only[SV.enc];rfl⟩
  ·cases e
 ·cases e
theorem zAD (ho:OkH P h)(he:okL h env)(e:scp P o env h=some x):∃ el t,∃ xs:List (Ty.sem t),x=.d (.list el t) xs∧pfr o (qB env)=none∧(∃ f args ts,o.op=.call ⟨.value f,args,ts⟩) ∧
 (qLF P el xs.length (xs.flatMap t.cells)=true->pcp P o (qB env) (qD h.l)=some (.l el xs.length (xs.flatMap t.cells))):=by
 unfold scp at e;split at e
 case h_2=>cases e
 rename_i f args ts hop;split at e
 case h_2=>cases e
 rename_i g v hst;split at e
 case h_2=>cases e
 rename_i el hg;split at e
 case h_2=>cases e
 rename_i t ht;obtain⟨h1,h2⟩:=bP (mG he f) (gW he args) hst;simp only[okL] at h2;obtain⟨xs,rfl,⟨ph1,hz⟩,k,t',o',n',hv⟩:=q48 ho h2.1 e
 have htg:target (qK (qB env) f) (args.toList.map (qK (qB env)))=some (g,[v.enc]):=by
  simp only[qO,gD,h1,qB]
 refine⟨el,t,xs,rfl,?_,⟨f,args,ts,hop⟩,fun hfo=>?_⟩
 ·unfold pfr;rw[hop];simp only[htg,hv]
 ·unfold pcp;rw[hop];simp only[htg,hg,hz];unfold zCA;simp only[hfo,show Nat.beq el el=true by simp,zPG,cond_true]
theorem q0I {env:List PV}{ph:PHp}(h:qVC o env=true):pcp P o env ph=none:=by
 cases hq:pcp P o env ph with
 | none=>rfl
 | some y =>
   obtain⟨f,args,ts,g,as,el,n,cs,p1,hop,ht,hg,_⟩:=rM hq;unfold qVC at h;rw[hop] at h;simp only[ht,hg] at h;cases h
def zDT (ops:Array Oper):Bool:=ops.toList.any fun o=>match o.op with
 | .call ⟨.value (.func g),_,_⟩=>(Frs.fr g).isSome
 | _=>false
def qC4 (P:Program)(T:yE)(nm:Nm)(ds:List (Option Tmp))(b:Array Nat)(zE3:List SV)(h0:SH):Nat->List Oper->List SV->SH->List (Nat×List Nat)->List (Nat×List Nat)->List (Nat×Nat)->List (Nat×PV)->List (Nat×List (Nat×SO))->(List SV->SH->zEY R)->zEY R
 | i,[],env,h,E,F,N,V,O,K=>cond (zCH b h0.l (qB zE3) E F N V O) (K env h) .fail
 | i,o::l,env,h,E,F,N,V,O,K=>qCH ds o env
    (fun env=>match scp P o env h with
     | some (.d (.list el t) xs)=>cond (frT P el t.w t&&(oH o (qB env)).all (q17 h.l)) (.ite (Nat.ble xs.length 1048576)
        (qC4 P T nm ds b zE3 h0 (i+1) l (dO env o.dst (.d (.list el t) xs)) h E ((i,dlC o (qB env))::F) N ((i,(SV.d (.list el t) xs).enc)::V) O K) .fail) .fail
     | some _=>.fail
     | none=>match sfr o env with
      | some (.d (.list el t) xs)=>cond (frT P el t.w t&&inP nm (qH nm o.dst)) (.ite (Nat.beq xs.length 0)
         (qC4 P T nm ds b zE3 h0 (i+1) l (dO env o.dst (.d (.list el t) [])) h E ((i,dlC o (qB env))::F) N ((i,.f (.l el 0 []))::V) O K)
         (.ite (Nat.ble xs.length 1048576)
           (qC4 P T nm ds b zE3 h0 (i+1) l (dO env o.dst (.own (qH nm o.dst) h.next xs.length)) (h.new (qH nm o.dst) fun v=>.list el true v v t xs) ((i,[qH nm o.dst])::E) F ((i,qH nm o.dst)::N) ((i,.own (qH nm o.dst) xs.length 0 xs.length)::V)
             ((i,qK5 [qH nm o.dst] (h.new (qH nm o.dst) fun v=>.list el true v v t xs).l)::O) K) .fail)) .fail
      | some _=>.fail
      | none=>cond ((qVC o (qB env)&&(okE o||(!zB o||xY o)))&&((oH o (qB env)).all (q17 h.l)&&cond (needs o.op) (inP nm (qH nm o.dst)) true)) (q2I P T true (qH nm o.dst) o env h fun v h' =>
      qC4 P T nm ds b zE3 h0 (i+1) l (dO env o.dst v) h' (cond (okE o) ((i,RC o (qH nm o.dst) (qB env))::E) E) (cond (okE o) F ((i,dlC o (qB env))::F)) (cond (needs o.op) ((i,qH nm o.dst)::N) N) ((i,v.enc)::V) (cond (okE o) ((i,qK5 (RC o (qH nm o.dst) (qB env)) h'.l)::O) O) K) .fail)
    (fun env=>qC4 P T nm ds b zE3 h0 (i+1) l (dO env o.dst (.tup [])) h E F N ((i,.tup [])::V) O K)
theorem bT {T:yE}(ht:qP0 tab T){ds:List (Option Tmp)}{b:Array Nat}{zE3:List SV}{h0:SH}:∀ {l:List Oper} {i:Nat} {env:List SV} {h:SH} {E F:List (Nat×List Nat)} {N:List (Nat×Nat)} {V:List (Nat×PV)} {O:List (Nat×List (Nat×SO))} {K:List SV->SH->zEY R},OkH P h->okL h env->(qC4 P T nm ds b zE3 h0 i l env h E F N V O K).run=some r ->
 (qIV P tab nm ds b (qB zE3) (qD h0.l) i l (qB env) (qD h.l) E F N V (q2X O)).holds P G fun e p=>∃ env' h',e=qB env'∧p=qD h'.l∧Ends P (l.map (·.dst)) env h env' h'∧(K env' h').run=some r
 | [],i,env,h,E,F,N,V,O,K,ho,he,e=>by
   unfold qC4 at e;obtain⟨c,e1⟩:=qG e;exact⟨q7L c,env,h,rfl,rfl,⟨he,ho,.refl _,fun _ _=>rfl,rfl⟩,e1⟩
 | o::l,i,env,h,E,F,N,V,O,K,ho,he,e=>by
   unfold qC4 at e;obtain⟨zE4,q1,q2,q3,q4⟩:=rV he e;unfold qIV j6
   rcases q4 with ⟨hw,e1⟩ | ⟨hw,e1⟩
   ·rw[hw];simp only;split at e1
    ·rename_i el t xs hsc;obtain⟨el',t',xs',hx,hpf,⟨f,args,ts,hop⟩,hcp⟩:=zAD ho q2 hsc;cases hx;rw[q1] at hpf hcp;obtain⟨c,e2⟩:=qG e1;rw[zOG] at c
     rcases run_ite e2 with ⟨z,e3⟩ | ⟨_,e3⟩
     ·have hcp:=hcp (qYQ c.1 z);have c2:xH o (qB env) (qD h.l)=true:=zOJ.2 fun x hx=>qOU (zOJ.1 c.2 x (by rw[q1];exact hx))
      have hfr:qES o (qB env)=false:=by unfold qES;rw[hpf]
      have zHO:okF o (qB env)=false:=by unfold okF okE;rw[hop,hfr];rfl
      have zHP:ndF o (qB env)=false:=by unfold ndF needs;rw[hop,hfr];rfl
      rw[sH hpf hcp c2];simp only[zHO,zHP,cond_false];unfold qCF;simp only[cond_false];have ih:=bT ht ho (vZ (d:=o.dst) (v:=.d (.list el t) xs) q2 (by simp[SV.ok])) e3;rw[jB,q1] at ih;exact zFB (Q':=fun e p=>∃ env' h',e=qB env'∧p=qD h'.l∧Ends P ((o::l).map (·.dst)) env h env' h'∧(K env' h').run=some r) (fun e p ⟨env',h',b1,b2,b3,b4⟩=>⟨env',h',b1,b2,Ends.step q1 q3 (.refl _) b3,b4⟩) ih
     ·cases e3
    ·cases e1
    split at e1
    ·rename_i el t xs hsf;obtain⟨el',t',xs',hx,hpf⟩:=zBQ q2 hsf;cases hx;rw[q1] at hpf;obtain⟨c,e2⟩:=qG e1;rw[zOG] at c;obtain⟨p1,p2⟩:=qIX hpf
     rcases run_ite e2 with ⟨z,e3⟩ | ⟨z,e3⟩
     ·have z0:xs=[]:=zQE (zOH z);subst z0;have hfr:qES o (qB env)=false:=by unfold qES;rw[hpf];rfl
      have zHO:okF o (qB env)=false:=by unfold okF;rw[p1,hfr];rfl
      have zHP:ndF o (qB env)=false:=by unfold ndF;rw[p2,hfr];rfl
      rw[oW hpf (qYQ c.1 rfl)];simp only[zHO,zHP,cond_false];unfold qCF;simp only[cond_false];have ih:=bT ht ho (vZ (d:=o.dst) (v:=.d (.list el t) []) q2 (by simp[SV.ok])) e3;rw[jB,q1] at ih;exact zFB (Q':=fun e p=>∃ env' h',e=qB env'∧p=qD h'.l∧Ends P ((o::l).map (·.dst)) env h env' h'∧(K env' h').run=some r) (fun e p ⟨env',h',b1,b2,b3,b4⟩=>⟨env',h',b1,b2,Ends.step q1 q3 (.refl _) b3,b4⟩) ih
     ·rcases run_ite e3 with ⟨z2,e4⟩ | ⟨z2,e4⟩
      ·cases hn:xs.length with
       | zero=>rw[hn] at z;cases z
       | succ n =>
       rw[hn] at hpf;have hfr:qES o (qB env)=true:=by unfold qES;rw[hpf]
       have zHO:okF o (qB env)=true:=by unfold okF;rw[hfr,zR8]
       have zHP:ndF o (qB env)=true:=by unfold ndF;rw[hfr,zR8]
       have hRF:RF o (qH nm o.dst) (qB env)=[qH nm o.dst]:=by unfold RF;rw[hfr];rfl
       have hfo:=qYQ c.1 z2;rw[hn] at hfo;rw[oW hpf hfo];simp only[zHO,zHP,hRF,cond_true];unfold qCF;simp only[cond_true];have hnw:=xI (k:=qH nm o.dst) (f:=fun v=>.list el true v v t xs) ho ⟨rfl,rfl,zCX c.1⟩;have ih:=bT ht hnw.2 (vZ (d:=o.dst) (v:=.own (qH nm o.dst) h.next xs.length) (qI hnw.1 q2) (wF rfl)) e4;rw[jB,q1] at ih;have ih2:=zFB (Q':=fun e p=>∃ env' h',e=qB env'∧p=qD h'.l∧Ends P ((o::l).map (·.dst)) env h env' h'∧(K env' h').run=some r) (fun e p ⟨env',h',b1,b2,b3,b4⟩=>⟨env',h',b1,b2,Ends.step q1 q3 hnw.1 b3,b4⟩) ih
       have eO:q2X ((i,qK5 [qH nm o.dst] (h.new (qH nm o.dst) fun v=>.list el true v v t xs).l)::O)=(i,aV [qH nm o.dst] (qD (h.new (qH nm o.dst) fun v=>.list el true v v t xs).l))::q2X O:=by
        show (i,qD (qK5 _ _))::q2X O=_;rw[qAT]
       rw[eO] at ih2;simp only[SV.enc,hn] at ih2;exact⟨c.2,ih2⟩
      ·cases e4
    ·cases e1
    rename_i hsf;obtain⟨c,e2⟩:=qG e1;rw[zOG,zOG,zOG] at c;have hpf:pfr o (qB env)=none:=by rw[<-q1];exact qZO c.1.1
    have hfr:qES o (qB env)=false:=by unfold qES;rw[hpf]
    have zHO:okF o (qB env)=okE o:=by unfold okF;rw[hfr,zSG]
    have zHP:ndF o (qB env)=needs o.op:=by unfold ndF;rw[hfr,zSG]
    have hRF:RF o (qH nm o.dst) (qB env)=RC o (qH nm o.dst) (qB env):=by unfold RF;rw[hfr];rfl
    obtain⟨v,h',a1,a2,a3⟩:=qI6 ht ho q2 e2;rw[q1] at a1;have c2:xH o (qB env) (qD h.l)=true:=zOJ.2 fun x hx=>qOU (zOJ.1 c.2.1 x (by rw[q1];exact hx))
    rw[oV hpf (q0I (by rw[<-q1];exact c.1.1)) a1 c.1.2 c2];simp only[zHO,zHP,hRF];have ih:=bT ht a2.2.1 (vZ (d:=o.dst) (qI a2.1 q2) a2.2.2) a3;rw[jB,q1] at ih;have ih2:=zFB (Q':=fun e p=>∃ env' h',e=qB env'∧p=qD h'.l∧Ends P ((o::l).map (·.dst)) env h env' h'∧(K env' h').run=some r) (fun e p ⟨env',h',b1,b2,b3,b4⟩=>⟨env',h',b1,b2,Ends.step q1 q3 a2.1 b3,b4⟩) ih
    have eO:q2X (cond (okE o) ((i,qK5 (RC o (qH nm o.dst) (qB env)) h'.l)::O) O)=cond (okE o) ((i,aV (RC o (qH nm o.dst) (qB env)) (qD h'.l))::q2X O) (q2X O):=by
     cases okE o with
     | false=>rfl
     | true =>
       show (i,qD (qK5 _ _))::q2X O=_;rw[qAT];rfl
    rw[eO] at ih2;unfold qCF
    cases hn:needs o.op with
    | false=>rw[hn] at ih2;exact ih2
    | true =>
      have c3:=c.2.2;rw[hn] at c3 ih2;simp only[cond_true] at c3 ⊢;exact⟨c3,ih2⟩
   ·rw[hw];simp only;have ih:=bT ht ho (vZ (d:=o.dst) (v:=.tup []) q2 (by simp[SV.ok,okL])) e1;rw[jB,q1] at ih;simp only[SV.enc,qB] at ih;exact zFB (fun e p ⟨env',h',b1,b2,b3,b4⟩=>⟨env',h',b1,b2,Ends.step q1 q3 (.refl _) b3,b4⟩) ih
def qP5 (ops:Array Oper):Bool:=match ops[ops.size - 1]? with
 | some o=>(match o.op with
   | .call ⟨.value _,_,_⟩=>(List.range (ops.size - 1)).all fun i=>vI (Region.before ops) i (ops.size - 1)
   | _=>false)
 | none=>false
def zDB {Γ:Type}(P:Program)(G:Nat->Bool)(T:yE)(CI:CIT)(Y:YI Γ)(nm:Nm)(ops:Array Oper)(d:Bool)(g:Γ)(env:List SV)(h:SH)(K:Γ->List SV->SH->zEY R):zEY R :=
 cond (uY G ops) (cond d (cond (aF ops&&fZ ops&&!(zDT ops&&mQ ops)) (cond (qP5 ops)
  (qXC P T nm (ops.toList.map (·.dst)) (dBo ops) env 0 (ops.toList.take (ops.size - 1)) env h [] [] [] [] fun env h=>qYU P T CI Y nm (ops.toList.map (·.dst)) (ops.toList.drop (ops.size - 1)) g env h K)
  (qXC P T nm (ops.toList.map (·.dst)) (dBo ops) env 0 ops.toList env h [] [] [] [] (K g))) (cond (mQ ops) (qC4 P T nm (ops.toList.map (·.dst)) (Region.before ops) env h 0 ops.toList env h [] [] [] [] [] (K g)) .fail)) (qYU P T CI Y nm (ops.toList.map (·.dst)) ops.toList g env h K)) .fail
variable {nat:xC}{good:FuncId->Bool}{rd:Bool}
theorem q56 [zFJ P G]{Γ:Type}{w:Wld Γ}{T:yE}{CI:CIT}{Y:YI Γ}(s:zFT P good nat G tab)(ht:qP0 tab T)(hci:qU8 P G CI)(hy:YOk P G w Y){id:Nat}{ops:Array Oper}{d:Bool}{g:Γ}{K:Γ->List SV->SH->zEY R}(ho:OkH P h)(he:okL h env)(e:(zDB P G T CI Y nm ops d g env h K).run=some r) :
 qU P G rd nm w (.region id ops d) g (qB env) (qD h.l) fun x g' pe ph=>x=.normal∧∃ env' h',pe=qB env'∧ph=qD h'.l∧Ends P (ops.toList.map (·.dst)) env h env' h'∧(K g' env' h').run=some r:=by
 unfold zDB at e;obtain⟨c1,e1⟩:=qG e
 cases d with
 | true =>
   cases hc2:(aF ops&&fZ ops&&!(zDT ops&&mQ ops)) with
   | false =>
     rw[hc2] at e1;obtain⟨c3,e2⟩:=qG (show (cond (mQ ops) (qC4 P T nm (ops.toList.map (·.dst)) (Region.before ops) env h 0 ops.toList env h [] [] [] [] [] (K g)) .fail:zEY R).run=some r from e1);refine (qU.of (s.zMO (Q:=fun x pe ph=>x=.normal∧∃ env' h',pe=qB env'∧ph=qD h'.l∧Ends P (ops.toList.map (·.dst)) env h env' h'∧(K g env' h').run=some r) c1 c3 ?_)).mono ?_
     ·exact zFB (fun e p hq=>⟨rfl,hq⟩) (bT (G:=G) (O:=[]) ht ho he e2)
     ·rintro x g' pe ph ⟨rfl,hq⟩;exact hq
   | true =>
   have c2:=hc2;rw[hc2] at e1
   have e2:(cond (qP5 ops)
    (qXC P T nm (ops.toList.map (·.dst)) (dBo ops) env 0 (ops.toList.take (ops.size - 1)) env h [] [] [] [] fun env h=>qYU P T CI Y nm (ops.toList.map (·.dst)) (ops.toList.drop (ops.size - 1)) g env h K)
    (qXC P T nm (ops.toList.map (·.dst)) (dBo ops) env 0 ops.toList env h [] [] [] [] (K g)):zEY R).run=some r:=e1
   rw[zOG,zOG] at c2;have c2:=c2.1
   cases hlo:qP5 ops with
   | false =>
     rw[hlo] at e2;have e2:(qXC P T nm (ops.toList.map (·.dst)) (dBo ops) env 0 ops.toList env h [] [] [] [] (K g)).run=some r:=e2;refine (qU.of (s.zMI (Q:=fun x pe ph=>x=.normal∧∃ env' h',pe=qB env'∧ph=qD h'.l∧Ends P (ops.toList.map (·.dst)) env h env' h'∧(K g env' h').run=some r) c1 c2.1 c2.2 rfl rfl ?_)).mono ?_
     ·exact zFB (fun e p hq=>⟨rfl,hq⟩) (qHG (G:=G) ht ho he e2)
     ·rintro x g' pe ph ⟨rfl,hq⟩;exact hq
   | true =>
     rw[hlo] at e2;have e2:(qXC P T nm (ops.toList.map (·.dst)) (dBo ops) env 0 (ops.toList.take (ops.size - 1)) env h [] [] [] [] fun env h=>qYU P T CI Y nm (ops.toList.map (·.dst)) (ops.toList.drop (ops.size - 1)) g env h K).run=some r:=e2;unfold qP5 at hlo;split at hlo
     ·rename_i o hop;split at hlo
      ·have hlt:=(zOT.1 hop).1
       have hdrop:ops.toList.drop (ops.size - 1)=[o]:=by
        have h1:ops.toList[ops.size - 1]?=some o:=by simpa using hop
        obtain⟨h2,h3⟩:=zOO.1 h1;rw[zRI h2,h3,List.drop_eq_nil_of_le (by simp;omega)]
       have hmap:(ops.toList.take (ops.size - 1)).map (·.dst)++[o.dst]=ops.toList.map (·.dst):=by
        rw[show [o.dst]=[o].map (·.dst) from rfl,<-zPS,<-hdrop,zRT]
       refine s.zML (inl:=q0C T) (n0:=ops.size - 1) c1 c2.1 c2.2 hop (by omega) (fun i hi=>zOJ.1 hlo i (zQZ.2 hi)) ?_;refine zFB (fun e p hq=>?_) (qHG (G:=G) ht ho he e2);obtain⟨zE4,h1,rfl,rfl,a3,a4⟩:=hq;rw[hdrop] at a4;refine kK (fun g2 e p hq=>?_) (qFM (G:=G) ht hci hy a3.2.1 a3.1 a4);obtain⟨zFH,h2,rfl,rfl,b3,b4⟩:=hq;refine⟨rfl,zFH,h2,rfl,rfl,⟨b3.1,b3.2.1,a3.2.2.1.trans b3.2.2.1,fun i hi=>?_,b3.2.2.2.2.trans a3.2.2.2.2⟩,b4⟩;rw[<-hmap,zPJ,not_or] at hi;exact (b3.2.2.2.1 i hi.2).trans (a3.2.2.2.1 i hi.1)
      ·cases hlo
     ·cases hlo
 | false=>exact s.zMK c1 (kK (fun g e p hq=>⟨rfl,hq⟩) (qFM (G:=G) ht hci hy ho he e1))
end
end Go.Sv
