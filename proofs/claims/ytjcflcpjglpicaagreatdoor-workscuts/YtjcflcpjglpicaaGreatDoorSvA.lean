/- A symbolic run, part one. Conditions: none. -/
import Derived.Test.YtjcflcpjglpicaaGreatDoorPur23
set_option linter.all false
namespace Go.Sv
open Go.Idl
variable {el:TypeId}{j n off:Nat}{k:IntKind}
class Yl where
 l:Nat
variable [Gc]
variable {P:Program}{Z Z':Nat->Prop}{H:IH}{M:Nat->Option (Nat×PO)}
inductive Ty where
 | int (k:IntKind)
 | bool
 | str
 | unit
 | list (el:TypeId) (t:Ty)
 | pair (a b:Ty)
 | raw
 | ol (el:TypeId) (k:IntKind)
 | nif deriving DecidableEq
@[reducible] def Ty.sem:Ty->Type
  | .int _=>Int
  | .bool=>Bool
  | .str=>ByteArray
  | .unit=>Unit
  | .list _ t=>List t.sem
  | .pair a b=>a.sem×b.sem
  | .raw=>List (Value×Value)
  | .ol _ _=>List Int
  | .nif=>Unit
def eT (l:List (Value×Value)):List FV:=List.flatMap (fun p=>[.v p.1,.v p.2]) l
def fvo (el:TypeId)(k:IntKind):List Int->FV
 | []=>.v (.slice none 0 0)
 | x::xs=>.l el (xs.length+1) (List.flatMap (fun i=>[FV.v (.int k i)]) (x::xs))
def Ty.cells:(t:Ty)->t.sem->List FV
 | .int k,x=>[.v (.int k x)]
 | .bool,x=>[.v (.bool x)]
 | .str,x=>[.v (.string x)]
 | .unit,_=>[]
 | .list el t,xs=>[.l el (List.length xs) (List.flatMap t.cells xs)]
 | .pair a b,x=>a.cells x.1++b.cells x.2
 | .raw,xs=>[.l 1000000001 (List.length xs) (eT xs)]
 | .ol el k,xs=>[fvo el k xs]
 | .nif,_=>[.v .nilIface]
def Ty.w:Ty->Nat
 | .int _ | .bool | .str | .list _ _ | .raw | .ol _ _ | .nif=>1
 | .unit=>0
 | .pair a b=>a.w+b.w
def Ty.nol:Ty->Bool
 | .ol _ _=>false
 | .pair a b=>a.nol&&b.nol
 | _=>true
def Ty.one:Ty->Bool
 | .unit=>false
 | .pair _ _=>false
 | _=>true
def Ty.fv:(t:Ty)->t.sem->FV
 | .int k,x=>.v (.int k x)
 | .bool,x=>.v (.bool x)
 | .str,x=>.v (.string x)
 | .list el t,xs=>.l el (List.length xs) (List.flatMap t.cells xs)
 | .raw,xs=>.l 1000000001 (List.length xs) (eT xs)
 | .ol el k,xs=>fvo el k xs
 | .nif,_=>.v .nilIface
 | _,_=>.v undef
theorem Ty.cells_one:∀ {t:Ty} {x:t.sem},t.one=true->t.cells x=[t.fv x]
 | .int _,_,_=>rfl
 | .bool,_,_=>rfl
 | .str,_,_=>rfl
 | .list _ _,_,_=>rfl
 | .raw,_,_=>rfl
 | .ol _ _,_,_=>rfl
 | .nif,_,_=>rfl
 | .unit,_,h=>by cases h
 | .pair _ _,_,h=>by cases h
theorem Ty.zGG:∀ (t:Ty) (x:t.sem),(t.cells x).length=t.w
 | .int _,_=>rfl
 | .bool,_=>rfl
 | .str,_=>rfl
 | .list _ _,_=>rfl
 | .raw,_=>rfl
 | .ol _ _,_=>rfl
 | .nif,_=>rfl
 | .unit,_=>rfl
 | .pair a b,x=>by
   show (a.cells x.1++b.cells x.2).length=a.w+b.w;rw[zP9,a.zGG,b.zGG]
theorem zW {t:Ty}:∀ (xs:List t.sem),(xs.flatMap t.cells).length=xs.length*t.w
 | []=>by simp
 | x::xs=>by rw[zQC,zP9,t.zGG,zW xs,zP5,zSD,zSC]
theorem gV {t:Ty}:∀ (xs:List t.sem) (j:Nat),(xs.flatMap t.cells).drop (j*t.w)=(xs.drop j).flatMap t.cells
 | xs,0=>by simp
 | [],j+1=>by simp
 | x::xs,j+1=>by
   rw[zQC,List.drop_succ_cons,<-gV xs j,zSD,zSC,<-zTF]
   congr 1
   rw[List.drop_append_of_le_length (by rw[t.zGG];exact zPM _),zTL (by rw[t.zGG];exact zPM _),List.nil_append]
theorem gP {t:Ty}:∀ (xs:List t.sem) (j:Nat),(xs.flatMap t.cells).take (j*t.w)=(xs.take j).flatMap t.cells
 | xs,0=>by simp
 | [],j+1=>by simp
 | x::xs,j+1=>by
   rw[zQC,zRN,zQC,<-gP xs j,zSD,zSC,List.take_append,t.zGG,zTG,zQD (by rw[t.zGG];omega)]
theorem qWQ {t:Ty}{xs:List t.sem}{x:t.sem}(h:xs[j]?=some x):((xs.flatMap t.cells).drop (j*t.w)).take t.w=t.cells x:=by
 rw[gV]
 have hj:=(zPQ.1 h)
 obtain⟨hl,hx⟩:=hj;rw[zSI hl,hx,zQC,List.take_append_of_le_length (by rw[t.zGG];exact zPM _),zQD (by rw[t.zGG];exact zPM _)]
theorem qKI {t:Ty}{xs:List t.sem}{x:t.sem}(h:xs[j]?=some x)(hn:off+n<=t.w):((xs.flatMap t.cells).drop (j*t.w+off)).take n=((t.cells x).drop off).take n:=by
 rw[<-qWQ h,List.drop_take,zTF,zSX,zRA (by omega)]
theorem flat_get {t:Ty}{xs:List t.sem}{x:t.sem}(h:xs[j]?=some x)(hn:off < t.w):(xs.flatMap t.cells)[j*t.w+off]?=(t.cells x)[off]?:=by
 rw[<-qWQ h,zQ9,if_pos hn,zRC]
theorem qHK {t:Ty}{xs:List t.sem}{x:t.sem}(h:xs[j]?=some x)(hn:off+n<=t.w):j*t.w+off+n<=(xs.flatMap t.cells).length:=by
 have hl:=(zPQ.1 h).1;rw[zW];have:(j+1)*t.w<=xs.length*t.w:=zQP _ hl;rw[zSD] at this;omega
theorem qLB:∀ (xs ys:List (Value×Value)),eT xs=eT ys->xs=ys
 | [],[],_=>rfl
 | [],y::ys,h=>by cases h
 | x::xs,[],h=>by cases h
 | x::xs,y::ys,h=>by
   have h:FV.v x.1::FV.v x.2::eT xs=FV.v y.1::FV.v y.2::eT ys:=h;injection h with h1 h2;injection h2 with h2 h3;injection h1 with h1;injection h2 with h2;rw[qLB xs ys h3,Prod.ext h1 h2]
theorem qDA:∀ (xs:List (Value×Value)),(eT xs).length=2*xs.length
 | []=>rfl
 | x::xs=>by
   show (eT xs).length+2=_;rw[qDA xs,zP5];omega
theorem qRB:∀ (xs ys:List (Value×Value)) (vs:List Value),FRL Z H (eT xs) vs->FRL Z' H (eT ys) vs->xs=ys
 | [],[],_,_,_=>rfl
 | [],y::ys,vs,a,b=>by have:=a.len;have:=b.len;simp[eT] at *;omega
 | x::xs,[],vs,a,b=>by have:=a.len;have:=b.len;simp[eT] at *;omega
 | x::xs,y::ys,vs,a,b=>by
   have a:FRL Z H (FV.v x.1::FV.v x.2::eT xs) vs:=a;have b:FRL Z' H (FV.v y.1::FV.v y.2::eT ys) vs:=b;obtain⟨v,vs',rfl,a1,a2⟩:=a.zF9;obtain⟨v',vs2,e,b1,b2⟩:=b.zF9;cases e;obtain⟨w,vs3,rfl,a3,a4⟩:=a2.zF9;obtain⟨w',vs4,e,b3,b4⟩:=b2.zF9;cases e;have e1:=(qMI a1).symm.trans (qMI b1);have e2:=(qMI a3).symm.trans (qMI b3);rw[qRB xs ys _ a4 b4,Prod.ext e1 e2]
theorem qQN {k:IntKind}:∀ (xs ys:List Int),List.flatMap (fun i=>[FV.v (.int k i)]) xs=List.flatMap (fun i=>[FV.v (.int k i)]) ys->xs=ys
 | [],[],_=>rfl
 | [],y::ys,h=>by simp at h
 | x::xs,[],h=>by simp at h
 | x::xs,y::ys,h=>by
   have h:FV.v (.int k x)::List.flatMap (fun i=>[FV.v (.int k i)]) xs=FV.v (.int k y)::List.flatMap (fun i=>[FV.v (.int k i)]) ys:=h;injection h with h1 h2;injection h1 with h1;injection h1 with _ h1;rw[h1,qQN xs ys h2]
theorem qQS (xs:List Int):(List.flatMap (fun i=>[FV.v (.int k i)]) xs).length=xs.length:=by
 induction xs with
 | nil=>rfl
 | cons x xs ih=>rw[zQC,zP9,ih];simp;omega
theorem qIX {k:IntKind}:∀ (xs ys:List Int) (vs:List Value),FRL Z H (List.flatMap (fun i=>[FV.v (.int k i)]) xs) vs->FRL Z' H (List.flatMap (fun i=>[FV.v (.int k i)]) ys) vs->xs=ys
 | [],[],_,_,_=>rfl
 | [],y::ys,vs,a,b=>by have:=a.len;have:=b.len;simp at *;omega
 | x::xs,[],vs,a,b=>by have:=a.len;have:=b.len;simp at *;omega
 | x::xs,y::ys,vs,a,b=>by
   have a:FRL Z H (FV.v (.int k x)::List.flatMap (fun i=>[FV.v (.int k i)]) xs) vs:=a;have b:FRL Z' H (FV.v (.int k y)::List.flatMap (fun i=>[FV.v (.int k i)]) ys) vs:=b;obtain⟨v,vs',rfl,a1,a2⟩:=a.zF9;obtain⟨v',vs2,e,b1,b2⟩:=b.zF9;cases e;have e1:=(qMI a1).symm.trans (qMI b1);injection e1 with _ e1;rw[qIX xs ys _ a2 b2,e1]
theorem q7K:∀ {xs ys:List Int},fvo el k xs=fvo el k ys->xs=ys
 | [],[],_=>rfl
 | [],_::_,h=>by cases h
 | _::_,[],h=>by cases h
 | x::xs,y::ys,h=>by
   injection h with _ _ h;exact qQN _ _ h
theorem q0S {v:Value}:∀ {xs ys:List Int},FR Z H (fvo el k xs) v->FR Z' H (fvo el k ys) v->xs=ys
 | [],[],_,_=>rfl
 | [],_::_,a,b=>by have:=qMI a;subst this;cases b
 | _::_,[],a,b=>by have:=qMI b;subst this;cases a
 | x::xs,y::ys,a,b=>by
   obtain⟨h1,ws,ws',h2,h3,h4⟩:=nU a b;have:=h4 (by rw[qQS,qQS];simpa using h1);subst this;exact qIX _ _ ws h2 h3
theorem Ty.inj:∀ (t:Ty) (x y:t.sem),t.cells x=t.cells y->x=y
 | .int _,x,y,h=>by injection h with h;injection h with h;injection h
 | .bool,x,y,h=>by injection h with h;injection h with h;injection h
 | .str,x,y,h=>by injection h with h;injection h with h;injection h
 | .unit,_,_,_=>rfl
 | .nif,_,_,_=>rfl
 | .ol el k,xs,ys,h=>by
   injection h with h;exact q7K h
 | .raw,xs,ys,h=>by
   injection h with h;injection h with _ h1 h2;exact qLB _ _ h2
 | .pair a b,x,y,h=>by
   have:=List.append_inj (show a.cells x.1++b.cells x.2=a.cells y.1++b.cells y.2 from h) (by rw[a.zGG,a.zGG]);exact Prod.ext (a.inj _ _ this.1) (b.inj _ _ this.2)
 | .list el t,xs,ys,h=>by
   injection h with h;injection h with _ h1 h2;exact go t xs ys h1 h2
where
 go (t:Ty):∀ (xs ys:List t.sem),xs.length=ys.length->xs.flatMap t.cells=ys.flatMap t.cells->xs=ys
 | [],[],_,_=>rfl
 | [],y::ys,e,h=>by cases e
 | x::xs,[],e,h=>by cases e
 | x::xs,y::ys,e,h=>by
   rw[zQC,zQC] at h;have:=List.append_inj h (by rw[t.zGG,t.zGG]);rw[t.inj x y this.1,go t xs ys (by simpa using e) this.2]
theorem Ty.uniq:∀ (t:Ty) {x y:t.sem} {vs:List Value},FRL Z H (t.cells x) vs->FRL Z' H (t.cells y) vs->x=y
 | .int k,x,y,vs,a,b=>by
   obtain⟨v,vs',rfl,a1,_⟩:=a.zF9;obtain⟨v',vs2,e,b1,_⟩:=b.zF9;cases e;have:=(qMI a1).symm.trans (qMI b1);injection this
 | .bool,x,y,vs,a,b=>by
   obtain⟨v,vs',rfl,a1,_⟩:=a.zF9;obtain⟨v',vs2,e,b1,_⟩:=b.zF9;cases e;have:=(qMI a1).symm.trans (qMI b1);injection this
 | .str,x,y,vs,a,b=>by
   obtain⟨v,vs',rfl,a1,_⟩:=a.zF9;obtain⟨v',vs2,e,b1,_⟩:=b.zF9;cases e;have:=(qMI a1).symm.trans (qMI b1);injection this
 | .unit,_,_,_,_,_=>rfl
 | .nif,_,_,_,_,_=>rfl
 | .ol el k,xs,ys,vs,a,b=>by
   obtain⟨v,vs',rfl,a1,_⟩:=a.zF9;obtain⟨v',vs2,e,b1,_⟩:=b.zF9;cases e;exact q0S a1 b1
 | .raw,xs,ys,vs,a,b=>by
   obtain⟨v,vs',rfl,a1,_⟩:=a.zF9;obtain⟨v',vs2,e,b1,_⟩:=b.zF9;cases e;obtain⟨h1,ws,ws',h2,h3,h4⟩:=nU a1 b1;have:=h4 (by rw[qDA,qDA,h1]);subst this;exact qRB xs ys ws h2 h3
 | .pair s t,x,y,vs,a,b=>by
   obtain⟨a1,a2⟩:=FRL.split (xs:=s.cells x.1) (ys:=t.cells x.2) a;obtain⟨b1,b2⟩:=FRL.split (xs:=s.cells y.1) (ys:=t.cells y.2) b;rw[s.zGG] at a1 a2 b1 b2;exact Prod.ext (s.uniq a1 b1) (t.uniq a2 b2)
 | .list el t,xs,ys,vs,a,b=>by
   obtain⟨v,vs',rfl,a1,_⟩:=a.zF9;obtain⟨v',vs2,e,b1,_⟩:=b.zF9;cases e;obtain⟨h1,ws,ws',h2,h3,h4⟩:=nU a1 b1;have:=h4 (by rw[zW,zW,h1]);subst this;exact go t xs ys ws h1 h2 h3
where
 go (t:Ty):∀ (xs ys:List t.sem) (vs:List Value),xs.length=ys.length->FRL Z H (xs.flatMap t.cells) vs->FRL Z' H (ys.flatMap t.cells) vs->xs=ys
 | [],[],_,_,_,_=>rfl
 | [],y::ys,vs,e,a,b=>by cases e
 | x::xs,[],vs,e,a,b=>by cases e
 | x::xs,y::ys,vs,e,a,b=>by
   rw[zQC] at a b;obtain⟨a1,a2⟩:=a.split;obtain⟨b1,b2⟩:=b.split;rw[t.zGG] at a1 a2 b1 b2;rw[t.uniq a1 b1,go t xs ys _ (by simpa using e) a2 b2]
def Ty.pv (t:Ty)(x:t.sem):PV:=cond t.one (.f (t.fv x)) (.agg ((t.cells x).map .f))
def Ty.en (t:Ty):PEn t.sem:=⟨t.pv,fun x y h=>by
 unfold Ty.pv at h
 cases ht:t.one with
 | true =>
   rw[ht] at h;injection h with h;exact t.inj x y (by rw[Ty.cells_one ht,Ty.cells_one ht,h])
 | false =>
   rw[ht] at h;injection h with h
   exact t.inj x y (zBO _ _ h),fun P Z Z' H x y v a b=>by
 unfold Ty.pv at a b
 cases ht:t.one with
 | true =>
   rw[ht] at a b
   cases a with
   | f a=>cases b with
     | f b=>exact t.uniq (vs:=[v]) (by rw[Ty.cells_one ht];exact .cons a ⟨rfl,fun i x v h=>by simp at h⟩) (by rw[Ty.cells_one ht];exact .cons b ⟨rfl,fun i x v h=>by simp at h⟩)
 | false =>
   rw[ht] at a b;obtain⟨vs,rfl,h1⟩:=VR.zIU a;obtain⟨vs',e,h2⟩:=VR.zIU b;cases e
   exact t.uniq (qC5 h1) (qC5 h2)⟩
@[reducible] def TyL:List Ty->Type
  | []=>Unit
  | [t]=>t.sem
  | t::u::ts=>t.sem×TyL (u::ts)
def pvL:(ts:List Ty)->TyL ts->List PV
 | [],_=>[]
 | [t],x=>[t.pv x]
 | t::u::ts,x=>t.pv x.1::pvL (u::ts) x.2
theorem qXK:∀ (ts:List Ty) (x y:TyL ts),pvL ts x=pvL ts y->x=y
 | [],_,_,_=>rfl
 | [t],x,y,h=>by injection h with h;exact t.en.inj x y h
 | t::u::ts,x,y,h=>by
   injection h with h1 h2;exact Prod.ext (t.en.inj _ _ h1) (qXK (u::ts) _ _ h2)
theorem qPJ:∀ (ts:List Ty) (x y:TyL ts) (vs:List Value),VRL P Z H (fun _=>none) (pvL ts x) vs->VRL P Z' H (fun _=>none) (pvL ts y) vs->x=y
 | [],_,_,_,_,_=>rfl
 | [t],x,y,vs,a,b=>by
   obtain⟨v,vs',rfl,a1,_⟩:=a.zF9;obtain⟨v',vs2,e,b1,_⟩:=b.zF9;cases e;exact t.en.uniq P Z Z' H x y v a1 b1
 | t::u::ts,x,y,vs,a,b=>by
   obtain⟨v,vs',rfl,a1,a2⟩:=a.zF9;obtain⟨v',vs2,e,b1,b2⟩:=b.zF9;cases e;exact Prod.ext (t.en.uniq P Z Z' H _ _ v a1 b1) (qPJ (u::ts) _ _ _ a2 b2)
def enL (ts:List Ty):AEn (TyL ts):=⟨pvL ts,qXK ts,fun P Z Z' H x y vs a b=>qPJ ts x y vs a b⟩
def jO:(ts:List Ty)->TyL ts->PV:=fun ts x=>qDR (pvL ts x)
end Go.Sv
namespace Go.Sv
open Go.Idl
variable [Gc]
variable {P:Program}
variable {b:Bool}{k:Nat}
def zF6 (R:Type):Type:=Option R
section
variable {R α σ ρ:Type}
def zF6.run (t:zF6 R):Option R:=t
def zF6.fail:zF6 R:=(none:Option R)
def zF6.ret (r:R):zF6 R:=some r
def zF6.ite (b:Bool)(x y:zF6 R):zF6 R:=cond b x y
noncomputable def zF6.bind (o:Option α)(k:α->zF6 R):zF6 R:=Option.rec zF6.fail k o
open Classical in
noncomputable def qMY (x y:Option R):Option R:=if x=y then x else none
noncomputable def zF6.both (x y:zF6 R):zF6 R:=zF6.bind (qMY x y) .ret
noncomputable def zF6.loop (f:σ->zF6 (σ⊕ρ))(s:σ)(k:ρ->zF6 R):zF6 R:=zF6.bind (zK (fun s=>(f s).run) s) k
end
theorem run_ite {R:Type}{x y:zF6 R}{r:R}(h:(zF6.ite b x y).run=some r):(b=true∧x.run=some r)∨(b=false∧y.run=some r):=by
 cases b with
 | true=>exact .inl ⟨rfl,h⟩
 | false=>exact .inr ⟨rfl,h⟩
theorem run_bind {R α:Type}{o:Option α}{k:α->zF6 R}{r:R}(h:(zF6.bind o k).run=some r):∃ a,o=some a∧(k a).run=some r:=by
 cases o with
 | none=>cases h
 | some a=>exact⟨a,rfl,h⟩
theorem qRL {R σ ρ:Type}{f:σ->zF6 (σ⊕ρ)}{s:σ}{k:ρ->zF6 R}{r:R}(h:(zF6.loop f s k).run=some r):∃ a,zK (fun s=>(f s).run) s=some a∧(k a).run=some r:=run_bind h
theorem qYO {R:Type}{x y:Option R}{r:R}(h:qMY x y=some r):x=some r∧y=some r:=by
 unfold qMY at h;split at h
 ·rename_i e;exact⟨h,e ▸ h⟩
 ·cases h
theorem q1U {R:Type}{x y:zF6 R}{r:R}(h:(zF6.both x y).run=some r):x.run=some r∧y.run=some r:=by
 obtain⟨a,h1,h2⟩:=run_bind h;cases h2;exact qYO h1
theorem qS3 {R:Type}(x:Option R):qMY x x=x:=by unfold qMY;rw[if_pos rfl]
theorem qE {R:Type}{x:zF6 R}{r:R}(h:(cond b x .fail).run=some r):b=true∧x.run=some r:=by
 cases b with
 | true=>exact⟨rfl,h⟩
 | false=>cases h
inductive SV where
 | d (t:Ty) (x:t.sem)
 | c (v:Value)
 | agg (l:List SV)
 | tup (l:List SV)
 | own (k g n:Nat)
 | sl (k g n o m:Nat)
 | ref (k off w:Nat)
 | elt (k g n w j off:Nat)
 | lp (t:Ty) (xs:List t.sem) (j off:Nat)
 | fn (f:FuncId) (first cap:List SV)
 | unk
 | yv
 | bq
 | mp (k:Nat)
 | opt (b:Bool) (k off w:Nat)
 | rfx (k off w:Nat)
 | etx (k g n w j off:Nat)
 | asl (el:TypeId) (k w n:Nat)
section
variable [Yl]
mutual
def SV.enc:SV->PV
 | .d t x=>.f (t.fv x)
 | .c v=>fvv v
 | .agg l=>.agg (qB l)
 | .tup l=>.tup (qB l)
 | .own k _ n=>.own k n 0 n
 | .sl k _ n o m=>.own k n o m
 | .ref k off w=>.ref k w off
 | .elt k _ n w j off=>.ref k (n*w) (j*w+off)
 | .lp t xs j off=>.lp (List.flatMap t.cells xs) (j*t.w+off)
 | .fn f a b=>.fn f (qB a) (qB b)
 | .unk=>.unk
 | .yv=>.yl Yl.l
 | .bq=>.bq
 | .mp k=>.mp k
 | .opt b k off w=>cond b (.ref k w off) (fvv (.pointer none))
 | .rfx k off w=>.ref k w off
 | .etx k _ n w j off=>.ref k (n*w) (j*w+off)
 | .asl el k _ n=>.asl el k n
def qB:List SV->List PV
 | []=>[]
 | x::l=>x.enc::qB l
end
theorem zH:∀ (l:List SV),qB l=l.map SV.enc
 | []=>by simp[qB]
 | x::l=>by simp[qB,zH l]
end
inductive SpO where
 | map (es:List (Value×Value))
 | iter (s:ByteArray) (pos:Nat)
 | mit (t:TypeId) (k since last:Nat) (seen:List Nat)
 | arr (el:TypeId) (k:IntKind) (xs:List Int)
def yE:Nat->List (Value×Value)->List MapEntry
 | _,[]=>[]
 | i,p::l=>⟨p.1,p.2,i⟩::yE (i+1) l
def SpO.enc:SpO->PO
 | .map es=>⟨1000000001,false,kV (List.length es) (yE 0 es)⟩
 | .iter s pos=>⟨1000000000,false,qBO s pos⟩
 | .mit _ k since last seen=>⟨1000000002,false,qF4 (.mp k) since last seen⟩
 | .arr el k xs=>⟨el,false,xs.map fun x=>fvv (.int k x)⟩
inductive SO where
 | spc (w:Nat) (x:SpO)
 | cells (el:TypeId) (w:Nat) (l:List SV)
 | list (el:TypeId) (gr:Bool) (g w:Nat) (t:Ty) (xs:List t.sem)
section
variable [Yl]
def SO.enc:SO->PO
 | .cells el _ l=>⟨el,false,qB l⟩
 | .list el gr _ _ t xs=>⟨el,gr,(List.flatMap t.cells xs).map .f⟩
 | .spc _ x=>x.enc
def SO.w:SO->Nat
 | .cells _ w _=>w
 | .list _ _ _ w _ _=>w
 | .spc w _=>w
structure SH where
 next:Nat
 l:List (Nat×SO)
def slk (k:Nat):List (Nat×SO)->Option SO
 | []=>none
 | (j,o)::l=>cond (k==j) (some o) (slk k l)
def sst (k:Nat)(o:SO):List (Nat×SO)->List (Nat×SO)
 | []=>[]
 | (j,p)::l=>cond (k==j) ((j,o)::l) ((j,p)::sst k o l)
def sdl (k:Nat):List (Nat×SO)->List (Nat×SO)
 | []=>[]
 | (j,p)::l=>cond (k==j) (sdl k l) ((j,p)::sdl k l)
def qC:List (Nat×SO)->PHp
 | []=>[]
 | (j,o)::l=>(j,o.enc)::qC l
theorem vJ (k:Nat):∀ (l:List (Nat×SO)),qA k (qC l)=(slk k l).map SO.enc
 | []=>rfl
 | (j,o)::l=>by
   show cond (k==j) (some o.enc) (qA k (qC l))=(cond (k==j) (some o) (slk k l)).map SO.enc;cases k==j
   ·exact vJ k l
   ·rfl
theorem xX (k:Nat)(o:SO):∀ (l:List (Nat×SO)),qC (sst k o l)=xR k o.enc (qC l)
 | []=>rfl
 | (j,p)::l=>by
   show qC (cond (k==j) ((j,o)::l) ((j,p)::sst k o l))=cond (k==j) ((j,o.enc)::qC l) ((j,p.enc)::xR k o.enc (qC l));cases k==j
   ·show (j,p.enc)::qC (sst k o l)=_;rw[xX k o l];rfl
   ·rfl
theorem fA (k:Nat):∀ (l:List (Nat×SO)),qC (sdl k l)=p8 k (qC l)
 | []=>rfl
 | (j,p)::l=>by
   show qC (cond (k==j) (sdl k l) ((j,p)::sdl k l))=cond (k==j) (p8 k (qC l)) ((j,p.enc)::p8 k (qC l));cases k==j
   ·show (j,p.enc)::qC (sdl k l)=_;rw[fA k l];rfl
   ·exact fA k l
end
theorem qEG {k j:Nat}{o:SO}(hj:j≠k):∀ (l:List (Nat×SO)),slk j (sst k o l)=slk j l
 | []=>rfl
 | (i,p)::l=>by
   show slk j (cond (k==i) ((i,o)::l) ((i,p)::sst k o l))=cond (j==i) (some p) (slk j l)
   cases h:k==i with
   | true =>
     have:k=i:=by simpa using h
     subst this;show cond (j==k) (some o) (slk j l)=_;rw[show (j==k)=false by simpa using hj];rfl
   | false =>
     show cond (j==i) (some p) (slk j (sst k o l))=_;rw[qEG hj l]
theorem qX4 {k:Nat}{o p:SO}:∀ {l:List (Nat×SO)},slk k l=some p->slk k (sst k o l)=some o
 | (i,q)::l,h=>by
   have h:cond (k==i) (some q) (slk k l)=some p:=h;show slk k (cond (k==i) ((i,o)::l) ((i,q)::sst k o l))=some o
   cases hi:k==i with
   | true =>
     show cond (k==i) (some o) (slk k l)=some o;rw[hi];rfl
   | false =>
     rw[hi] at h;show cond (k==i) (some q) (slk k (sst k o l))=some o;rw[hi];exact qX4 (l:=l) h
theorem kX {k j:Nat}(hj:j≠k):∀ (l:List (Nat×SO)),slk j (sdl k l)=slk j l
 | []=>rfl
 | (i,p)::l=>by
   show slk j (cond (k==i) (sdl k l) ((i,p)::sdl k l))=cond (j==i) (some p) (slk j l)
   cases h:k==i with
   | true =>
     have:k=i:=by simpa using h
     subst this;rw[show (j==k)=false by simpa using hj];exact kX hj l
   | false =>
     show cond (j==i) (some p) (slk j (sdl k l))=_;rw[kX hj l]
theorem qNQ (k:Nat):∀ (l:List (Nat×SO)),slk k (sdl k l)=none
 | []=>rfl
 | (i,p)::l=>by
   show slk k (cond (k==i) (sdl k l) ((i,p)::sdl k l))=none
   cases h:k==i with
   | true=>exact qNQ k l
   | false =>
     show cond (k==i) (some p) (slk k (sdl k l))=none;rw[h];exact qNQ k l
theorem yA {j:Nat}{o:SO}{l:List (Nat×SO)}(hj:j≠k):slk j ((k,o)::l)=slk j l:=by
 show cond (j==k) (some o) (slk j l)=_;rw[show (j==k)=false by simpa using hj];rfl
theorem jL {o:SO}{l:List (Nat×SO)}:slk k ((k,o)::l)=some o:=by
 show cond (k==k) (some o) (slk k l)=_;simp
def qZH (h:SH)(k g n:Nat):Prop:=g < h.next∧∀ el gr w t xs,slk k h.l=some (.list el gr g w t xs)->n=xs.length
mutual
def SV.ok (h:SH):SV->Prop
 | .agg l=>okL h l
 | .tup l=>okL h l
 | .own k g n=>qZH h k g n
 | .sl k g n o m=>qZH h k g n∧o+m<=n
 | .elt k g n _ _ _=>qZH h k g n
 | .etx k g n _ _ _=>qZH h k g n
 | .fn _ a b=>okL h a∧okL h b
 | .asl _ k w n=>w < h.next∧∀ ob,slk k h.l=some ob->ob.w=w->∃ el ik,∃ xs:List Int,ob=.spc w (.arr el ik xs)∧n=xs.length
 | _=>True
def okL (h:SH):List SV->Prop
 | []=>True
 | x::l=>x.ok h∧okL h l
end
theorem zL {h:SH}:∀ {l:List SV},okL h l ↔ ∀ x∈l,x.ok h
 | []=>by simp[okL]
 | x::l=>by simp[okL,zL (l:=l)]
structure OkH (P:Program) (h:SH):Prop where
 ver:∀ k ob,slk k h.l=some ob->ob.w < h.next
 cells:∀ k el w l,slk k h.l=some (.cells el w l)->okL h l
 list:∀ k el gr g w t xs,slk k h.l=some (.list el gr g w t xs)->g < h.next∧szT P el=some t.w∧0 < t.w
structure Keep (h h':SH):Prop where
 next:h.next<=h'.next
 same:∀ k ob,slk k h'.l=some ob->ob.w < h.next->slk k h.l=some ob
 len:∀ k el gr g w t xs,slk k h'.l=some (.list el gr g w t xs)->g < h.next->∃ w0,∃ xs0:List t.sem,slk k h.l=some (.list el gr g w0 t xs0)∧xs0.length=xs.length
theorem Keep.refl (h:SH):Keep h h:=⟨zPM _,fun _ _ h _=>h,fun k el gr g w t xs h _=>⟨w,xs,h,rfl⟩⟩
theorem Keep.trans {a b c:SH}(x:Keep a b)(y:Keep b c):Keep a c :=
 ⟨zP7 x.next y.next,fun k ob h hw=>x.same k ob (y.same k ob h (zPP hw x.next)) hw,fun k el gr g w t xs h hg=>by
   obtain⟨w1,xs1,h1,e1⟩:=y.len k el gr g w t xs h (zPP hg x.next);obtain⟨w2,xs2,h2,e2⟩:=x.len k el gr g w1 t xs1 h1 hg
   exact⟨w2,xs2,h2,e2.trans e1⟩⟩
theorem qZH.keep {h h':SH}{g n:Nat}(a:qZH h k g n)(b:Keep h h'):qZH h' k g n :=
 ⟨zPP a.1 b.next,fun el gr w t xs hk=>by
   obtain⟨w0,xs0,h0,e0⟩:=b.len k el gr g w t xs hk a.1
   rw[<-e0];exact a.2 el gr w0 t xs0 h0⟩
mutual
theorem SV.ok.keep {h h':SH}(b:Keep h h'):∀ {x:SV},x.ok h->x.ok h'
 | .agg l,a=>by simp only[SV.ok] at a ⊢;exact qJ b a
 | .tup l,a=>by simp only[SV.ok] at a ⊢;exact qJ b a
 | .own k g n,a=>by simp only[SV.ok] at a ⊢;exact a.keep b
 | .sl k g n o m,a=>by simp only[SV.ok] at a ⊢;exact⟨a.1.keep b,a.2⟩
 | .elt k g n w j off,a=>by simp only[SV.ok] at a ⊢;exact a.keep b
 | .etx k g n w j off,a=>by simp only[SV.ok] at a ⊢;exact a.keep b
 | .fn f x y,a=>by simp only[SV.ok] at a ⊢;exact⟨qJ b a.1,qJ b a.2⟩
 | .d _ _,_=>by simp[SV.ok]
 | .c _,_=>by simp[SV.ok]
 | .ref _ _ _,_=>by simp[SV.ok]
 | .lp _ _ _ _,_=>by simp[SV.ok]
 | .unk,_=>by simp[SV.ok]
 | .yv,_=>by simp[SV.ok]
 | .bq,_=>by simp[SV.ok]
 | .mp _,_=>by simp[SV.ok]
 | .opt _ _ _ _,_=>by simp[SV.ok]
 | .rfx _ _ _,_=>by simp[SV.ok]
 | .asl el k w n,a=>by
   simp only[SV.ok] at a ⊢;exact⟨zPP a.1 b.next,fun ob ho hw=>a.2 ob (b.same k ob ho (by rw[hw];exact a.1)) hw⟩
theorem qJ {h h':SH}(b:Keep h h'):∀ {l:List SV},okL h l->okL h' l
 | [],_=>by simp[okL]
 | x::l,a=>by simp only[okL] at a ⊢;exact⟨SV.ok.keep b a.1,qJ b a.2⟩
end
def SH.new (h:SH)(k:Nat)(f:Nat->SO):SH:=⟨h.next+1,(k,f h.next)::h.l⟩
def SH.put (h:SH)(k:Nat)(f:Nat->SO):SH:=⟨h.next+1,sst k (f h.next) h.l⟩
def SH.del (h:SH)(k:Nat):SH:=⟨h.next,sdl k h.l⟩
def zBB (P:Program)(h:SH)(n:Nat):SO->Prop
 | .cells _ w l=>w=n∧okL h l
 | .list el _ g w t _=>w=n∧g=n∧szT P el=some t.w∧0 < t.w
 | .spc w _=>w=n
theorem q2M {h:SH}{f:Nat->SO}(hw:(f h.next).w=h.next)(hg:∀ el gr g w t xs,f h.next=.list el gr g w t xs->g=h.next):Keep h (h.new k f) :=
 ⟨zS3 _,fun j ob hj hlt=>by
   by_cases e:j=k
   ·subst e;rw[show slk j (h.new j f).l=some (f h.next) from jL] at hj;cases hj;omega
   ·rwa [show slk j (h.new k f).l=slk j h.l from yA e] at hj,fun j el gr g w t xs hj hlt=>by
   by_cases e:j=k
   ·subst e;rw[show slk j (h.new j f).l=some (f h.next) from jL] at hj;have:=hg _ _ _ _ _ _ (zQJ hj);omega
   ·rw[show slk j (h.new k f).l=slk j h.l from yA e] at hj
    exact⟨w,xs,hj,rfl⟩⟩
theorem xL {h:SH}{f:Nat->SO}(a:OkH P h)(hf:zBB P h h.next (f h.next)):Keep h (h.new k f)∧OkH P (h.new k f):=by
 have hw:(f h.next).w=h.next:=by
  cases hq:f h.next with
  | cells el w l=>rw[hq] at hf;exact hf.1
  | list el gr g w t xs=>rw[hq] at hf;exact hf.1
  | spc w x=>rw[hq] at hf;exact hf
 have hk:Keep h (h.new k f):=q2M hw fun el gr g w t xs e=>by rw[e] at hf;exact hf.2.1
 refine⟨hk,⟨fun j ob hj=>?_,fun j el w l hj=>?_,fun j el gr g w t xs hj=>?_⟩⟩
 ·by_cases e:j=k
  ·subst e;rw[show slk j (h.new j f).l=some (f h.next) from jL] at hj;cases hj;rw[hw];exact zQI _
  ·rw[show slk j (h.new k f).l=slk j h.l from yA e] at hj;exact zQ7 (a.ver j ob hj)
 ·by_cases e:j=k
  ·subst e;rw[show slk j (h.new j f).l=some (f h.next) from jL] at hj;rw[zQJ hj] at hf;exact qJ hk hf.2
  ·rw[show slk j (h.new k f).l=slk j h.l from yA e] at hj;exact qJ hk (a.cells j el w l hj)
 ·by_cases e:j=k
  ·subst e;rw[show slk j (h.new j f).l=some (f h.next) from jL] at hj;rw[zQJ hj] at hf;exact⟨by rw[hf.2.1];exact zQI _,hf.2.2⟩
  ·rw[show slk j (h.new k f).l=slk j h.l from yA e] at hj;have:=a.list j el gr g w t xs hj;exact⟨zQ7 this.1,this.2⟩
def zDW (h:SH)(n:Nat):SO->SO->Prop
 | .cells _ _ _,.cells _ w' l'=>w'=n∧okL h l'
 | .list el gr g _ t xs,ob'=>∃ xs':List t.sem,ob'=.list el gr g n t xs'∧xs.length=xs'.length
 | .spc _ _,.spc w' _=>w'=n
 | _,_=>False
theorem vY {h:SH}{f:Nat->SO}{ob:SO}(a:OkH P h)(hk:slk k h.l=some ob)(hf:zDW h h.next ob (f h.next)):Keep h (h.put k f)∧OkH P (h.put k f):=by
 have hs:slk k (h.put k f).l=some (f h.next):=qX4 hk;have hn:∀ j,j≠k->slk j (h.put k f).l=slk j h.l:=fun j hj=>qEG hj _
 have hw:(f h.next).w=h.next:=by
  cases ob with
  | cells el w l =>
    cases hq:f h.next with
    | cells el' w' l'=>rw[hq] at hf;exact hf.1
    | list=>rw[hq] at hf;exact hf.elim
    | spc=>rw[hq] at hf;exact hf.elim
  | spc w0 x0 =>
    cases hq:f h.next with
    | spc w' x'=>rw[hq] at hf;exact hf
    | list=>rw[hq] at hf;exact hf.elim
    | cells=>rw[hq] at hf;exact hf.elim
  | list el gr g w t xs =>
    obtain⟨xs',e,_⟩:=hf;rw[e];rfl
 have hkp:Keep h (h.put k f):=by
  refine⟨zS3 _,fun j o hj hlt=>?_,fun j el gr g w t xs hj hlt=>?_⟩
  ·by_cases e:j=k
   ·subst e;rw[hs] at hj;cases hj;omega
   ·rwa [hn j e] at hj
  ·by_cases e:j=k
   ·subst e;rw[hs] at hj;have hj:=zQJ hj
    cases ob with
    | cells el0 w0 l0 =>
      rw[hj] at hf;exact hf.elim
    | spc w0 x0 =>
      rw[hj] at hf;exact hf.elim
    | list el0 gr0 g0 w0 t0 xs0 =>
      obtain⟨xs',e2,e3⟩:=hf;rw[e2] at hj;injection hj with a1 a2 a3 a4 a5 a6;subst a1 a2 a3 a5;cases a6;exact⟨w0,xs0,hk,e3⟩
   ·rw[hn j e] at hj;exact⟨w,xs,hj,rfl⟩
 refine⟨hkp,⟨fun j o hj=>?_,fun j el w l hj=>?_,fun j el gr g w t xs hj=>?_⟩⟩
 ·by_cases e:j=k
  ·subst e;rw[hs] at hj;cases hj;rw[hw];exact zQI _
  ·rw[hn j e] at hj;exact zQ7 (a.ver j o hj)
 ·by_cases e:j=k
  ·subst e;rw[hs] at hj;have hj:=zQJ hj
   cases ob with
   | cells el0 w0 l0=>rw[hj] at hf;exact qJ hkp hf.2
   | spc w0 x0=>rw[hj] at hf;exact hf.elim
   | list el0 gr0 g0 w0 t0 xs0 =>
     obtain⟨xs',e2,e3⟩:=hf;rw[e2] at hj;cases hj
  ·rw[hn j e] at hj;exact qJ hkp (a.cells j el w l hj)
 ·by_cases e:j=k
  ·subst e;rw[hs] at hj;have hj:=zQJ hj
   cases ob with
   | cells el0 w0 l0=>rw[hj] at hf;exact hf.elim
   | spc w0 x0=>rw[hj] at hf;exact hf.elim
   | list el0 gr0 g0 w0 t0 xs0 =>
     obtain⟨xs',e2,e3⟩:=hf;rw[e2] at hj;injection hj with a1 a2 a3 a4 a5 a6;subst a1 a2 a3 a5;have:=a.list j _ _ _ _ _ _ hk;exact⟨zQ7 this.1,this.2⟩
  ·rw[hn j e] at hj;have:=a.list j el gr g w t xs hj;exact⟨zQ7 this.1,this.2⟩
theorem fO {h:SH}(a:OkH P h):Keep h (h.del k)∧OkH P (h.del k):=by
 have hl:∀ j ob,slk j (h.del k).l=some ob->slk j h.l=some ob:=fun j ob hj=>by
  by_cases e:j=k
  ·subst e;rw[show slk j (h.del j).l=none from qNQ j _] at hj;cases hj
  ·rwa [show slk j (h.del k).l=slk j h.l from kX e _] at hj
 have hkp:Keep h (h.del k):=⟨zPM _,fun j ob hj _=>hl j ob hj,fun j el gr g w t xs hj _=>⟨w,xs,hl _ _ hj,rfl⟩⟩
 exact⟨hkp,⟨fun j ob hj=>a.ver j ob (hl j ob hj),fun j el w l hj=>qJ hkp (a.cells j el w l (hl _ _ hj)),fun j el gr g w t xs hj=>a.list j el gr g w t xs (hl _ _ hj)⟩⟩
def GV (Γ:Option Type):Type:=match Γ with
 | none=>Unit
 | some γ=>γ
def GS (Γ:Option Type)(S:Type):Type:=match Γ with
 | none=>S
 | some γ=>γ×S
def gj:{Γ:Option Type}->{S:Type}->GV Γ->S->GS Γ S
 | none,_,_,s=>s
 | some _,_,g,s=>(g,s)
def g1:{Γ:Option Type}->{S:Type}->GS Γ S->GV Γ
 | none,_,_=>()
 | some _,_,p=>p.1
def g2:{Γ:Option Type}->{S:Type}->GS Γ S->S
 | none,_,s=>s
 | some _,_,p=>p.2
theorem q4J {Γ:Option Type}{S:Type}{g:GV Γ}{s:S}:g1 (gj g s)=g:=by cases Γ <;> rfl
theorem q0R {Γ:Option Type}{S:Type}{g:GV Γ}{s:S}:g2 (gj g s)=s:=by cases Γ <;> rfl
structure Ent where
 as:List Ty
 rs:List Ty
 F:TyL as->Option (TyL rs)
abbrev zT:=List (FuncId×Ent)
def slT (g:FuncId):zT->Option Ent
 | []=>none
 | (k,e)::l=>cond (Nat.beq g k) (some e) (slT g l)
structure Sh where
 d:List Nat
 o:List Nat
 s:List (Nat×Nat)
 v:List (Nat×TypeId)
 ex:List Nat
 b:List (Nat×List (Option Nat)):=[]
 bv:List (Nat×Nat×TypeId×Nat):=[]
structure Ab where
 A:List Ty->Type
 f:∀ ts,TyL ts->A ts
def Ab.id:Ab:=⟨fun ts=>TyL ts,fun _ s=>s⟩
structure zIV where
 d:List Nat
 os:List (Nat×Bool)
 s:List (Nat×Nat)
 b:List (Nat×List (Option Nat))
 ts:List Ty
def zIV.sh (j:zIV):Sh:=⟨j.d,j.os.map (·.1),j.s,[],[],j.b,[]⟩
structure An where
 fz:List (Nat×List (Nat×TypeId))
 lp:List (Nat×Sh)
 rg:List (Nat×Sh):=[]
 ab:List (Nat×Ab):=[]
 jn:List (Nat×zIV):=[]
def lkA.{u}{α:Type u}(i:Nat):List (Nat×α)->Option α
 | []=>none
 | (j,x)::l=>cond (Nat.beq i j) (some x) (lkA i l)
structure zGS where
 as:List Ty
 ys:List Ty
 yt:List TypeId
 F:TyL as->(γ:Type)->(γ->TyL ys->Option (γ×Bool))->γ->Option γ
def slI (g:FuncId):List (FuncId×zGS)->Option zGS
 | []=>none
 | (k,e)::l=>cond (Nat.beq g k) (some e) (slI g l)
structure YI (Γ:Type) where
 ys:List Ty
 yt:List TypeId
 stp:Γ->TyL ys->Option (Γ×Bool)
def yi0:YI Unit:=⟨[],[],fun _ _=>none⟩
abbrev CIT:Type 1:=(R:Type)->Nm->FuncId->List SV->SH->(SV->SH->zF6 R)->zF6 R
end Go.Sv
namespace Go.Sv
open Go.Idl
variable {a b env l:List SV}{el t:TypeId}{ik k:IntKind}{j n off w w':Nat}{v x:SV}{xs ys:List Int}
noncomputable section
variable [Gc]
variable [Yl]
variable {P:Program}{h:SH}{R:Type}{r:R}
def zB9:Value->SV
 | .agg cs=>cond (jK okC cs.toList) (.agg (kY .c cs.toList)) .unk
 | .tuple cs=>cond (jK okC cs.toList) (.tup (kY .c cs.toList)) .unk
 | v=>cond (okC v) (.c v) .unk
def kE (env:List SV):Operand->SV
 | .tmp t=>(zJ env t).getD .unk
 | .const v=>zB9 v
 | .global _=>.unk
 | .func g=>.c (.func (.func g) #[] #[])
theorem zCV:∀ (l:List Value),qB (kY .c l)=kY fvv l
 | []=>by simp[kY,qB]
 | v::l=>by
   show qB (.c v::kY .c l)=fvv v::kY fvv l;simp[qB,zCV l,SV.enc]
omit [Yl] in
theorem zDF:∀ (l:List Value),okL h (kY .c l)
 | []=>by simp[kY,okL]
 | v::l=>by
   show okL h (.c v::kY .c l);simp[okL,zDF l,SV.ok]
theorem q0B (v:Value):ofC v=(zB9 v).enc:=by
 cases v with
 | agg cs =>
   show cond _ _ _=(cond (jK okC cs.toList) (SV.agg (kY .c cs.toList)) SV.unk).enc;cases jK okC cs.toList
   ·simp[SV.enc]
   ·simp[SV.enc,zCV]
 | tuple cs =>
   show cond _ _ _=(cond (jK okC cs.toList) (SV.tup (kY .c cs.toList)) SV.unk).enc;cases jK okC cs.toList
   ·simp[SV.enc]
   ·simp[SV.enc,zCV]
 | _ =>
   simp only[ofC,q7I,zB9];cases okC _ <;> simp[SV.enc]
omit [Yl] in
theorem q8A (v:Value):(zB9 v).ok h:=by
 cases v with
 | agg cs =>
   show (cond (jK okC cs.toList) (.agg (kY .c cs.toList)) .unk:SV).ok h;cases jK okC cs.toList
   ·simp[SV.ok]
   ·simp[SV.ok,zDF]
 | tuple cs =>
   show (cond (jK okC cs.toList) (.tup (kY .c cs.toList)) .unk:SV).ok h;cases jK okC cs.toList
   ·simp[SV.ok]
   ·simp[SV.ok,zDF]
 | _ =>
   simp only[zB9];cases okC _ <;> simp[SV.ok]
theorem qX (env:List SV)(t:Nat):zJ (qB env) t=(zJ env t).map SV.enc:=by
 rw[qF,qF,zH,zP0]
omit [Yl] in
theorem nG {t:Nat}(ho:okL h env)(hx:zJ env t=some x):x.ok h:=by
 rw[qF] at hx;exact zL.1 ho x (zQQ hx)
theorem qO (env:List SV)(x:Operand):qK (qB env) x=(kE env x).enc:=by
 cases x with
 | tmp t =>
   show (zJ (qB env) t).getD .unk=((zJ env t).getD .unk).enc;rw[qX];cases zJ env t <;> simp[SV.enc]
 | const v=>exact q0B v
 | global g=>simp[qK,kE,SV.enc]
 | func g=>simp[qK,kE,SV.enc]
omit [Yl] in
theorem nD (ho:okL h env)(x:Operand):(kE env x).ok h:=by
 cases x with
 | tmp t =>
   show ((zJ env t).getD .unk).ok h
   cases hx:zJ env t with
   | none=>simp[SV.ok]
   | some y=>exact nG ho hx
 | const v=>exact q8A v
 | global g=>simp[kE,SV.ok]
 | func g=>simp[kE,SV.ok]
def asI:SV->Option (IntKind×Int)
 | .d (.int k) x=>some (k,x)
 | .c (.int k x)=>some (k,x)
 | _=>none
def asB:SV->Option Bool
 | .d .bool x=>some x
 | .c (.bool x)=>some x
 | _=>none
def asS:SV->Option ByteArray
 | .d .str x=>some x
 | .c (.string x)=>some x
 | _=>none
theorem yD {x:Int}(e:asI v=some (k,x)):v.enc=fvv (.int k x):=by
 unfold asI at e;split at e
 ·cases e;simp[SV.enc,Ty.fv,fvv]
 ·cases e;simp[SV.enc]
 ·cases e
theorem sS {x:Bool}(e:asB v=some x):v.enc=fvv (.bool x):=by
 unfold asB at e;split at e
 ·cases e;simp[SV.enc,Ty.fv,fvv]
 ·cases e;simp[SV.enc]
 ·cases e
theorem fU {x:ByteArray}(e:asS v=some x):v.enc=fvv (.string x):=by
 unfold asS at e;split at e
 ·cases e;simp[SV.enc,Ty.fv,fvv]
 ·cases e;simp[SV.enc]
 ·cases e
def Ty.svs:(t:Ty)->t.sem->List SV
 | .int k,x=>[.d (.int k) x]
 | .bool,x=>[.d .bool x]
 | .str,x=>[.d .str x]
 | .unit,_=>[]
 | .list el t,x=>[.d (.list el t) x]
 | .pair a b,x=>a.svs x.1++b.svs x.2
 | .raw,x=>[.d .raw x]
 | .ol el k,x=>[.d (.ol el k) x]
 | .nif,x=>[.d .nif x]
theorem d9 (a b:List SV):qB (a++b)=qB a++qB b:=by simp[zH]
theorem fP:∀ (t:Ty) (x:t.sem),qB (t.svs x)=(t.cells x).map .f
 | .int k,x=>by simp[Ty.svs,Ty.cells,qB,SV.enc,Ty.fv]
 | .bool,x=>by simp[Ty.svs,Ty.cells,qB,SV.enc,Ty.fv]
 | .str,x=>by simp[Ty.svs,Ty.cells,qB,SV.enc,Ty.fv]
 | .unit,x=>by simp[Ty.svs,Ty.cells,qB]
 | .list el t,x=>by simp[Ty.svs,Ty.cells,qB,SV.enc,Ty.fv]
 | .raw,x=>by simp[Ty.svs,Ty.cells,qB,SV.enc,Ty.fv]
 | .ol el k,x=>by simp[Ty.svs,Ty.cells,qB,SV.enc,Ty.fv]
 | .nif,x=>by simp[Ty.svs,Ty.cells,qB,SV.enc,Ty.fv]
 | .pair a b,x=>by
   show qB (a.svs x.1++b.svs x.2)=(a.cells x.1++b.cells x.2).map .f;rw[d9,fP a,fP b,zQX]
omit [Yl] in
theorem gY (x:okL h a)(y:okL h b):okL h (a++b):=zL.2 fun z hz=>by
 rcases zQR.1 hz with q | q
 ·exact zL.1 x z q
 ·exact zL.1 y z q
omit [Yl] in
theorem qFU:∀ (t:Ty) (x:t.sem),okL h (t.svs x)
 | .int k,x=>by simp[Ty.svs,okL,SV.ok]
 | .bool,x=>by simp[Ty.svs,okL,SV.ok]
 | .str,x=>by simp[Ty.svs,okL,SV.ok]
 | .unit,x=>by simp[Ty.svs,okL]
 | .list el t,x=>by simp[Ty.svs,okL,SV.ok]
 | .raw,x=>by simp[Ty.svs,okL,SV.ok]
 | .ol el k,x=>by simp[Ty.svs,okL,SV.ok]
 | .nif,x=>by simp[Ty.svs,okL,SV.ok]
 | .pair a b,x=>gY (qFU a x.1) (qFU b x.2)
def q7O (k:IntKind)(v:SV):Option Int:=match asI v with
 | some (k',x)=>cond (decide (k'=k)) (some x) none
 | none=>none
def zD4 (el:TypeId)(t:Ty):SV->Option (List t.sem)
 | .d (.list el' t') xs=>if e:t'=t then cond (Nat.beq el' el) (some (e ▸ xs)) none else none
 | _=>none
def asR:SV->Option (List (Value×Value))
 | .d .raw x=>some x
 | _=>none
def q7N (el:TypeId)(k:IntKind):SV->Option (List Int)
 | .d (.ol el' k') xs=>cond (Nat.beq el' el&&decide (k'=k)) (some xs) none
 | .c (.slice none 0 0)=>some []
 | _=>none
def q5Z:SV->Option Unit
 | .d .nif _=>some ()
 | .c .nilIface=>some ()
 | _=>none
def Ty.zKP:(t:Ty)->SV->Option t.sem
 | .int k,v=>q7O k v
 | .bool,v=>asB v
 | .str,v=>asS v
 | .list el t,v=>zD4 el t v
 | .unit,_=>none
 | .pair _ _,_=>none
 | .raw,v=>asR v
 | .ol el k,v=>q7N el k v
 | .nif,v=>q5Z v
theorem pQ {x:Int}(e:q7O k v=some x):v.enc=fvv (.int k x):=by
 unfold q7O at e;split at e
 ·rename_i k' x' hx
  cases hk:decide (k'=k) with
  | false=>rw[hk] at e;cases e
  | true =>
    rw[hk] at e;cases e;have:k'=k:=by simpa using hk
    subst this;exact yD hx
 ·cases e
omit [Yl] in
theorem q3X {t:Ty}{x:List t.sem}(e:zD4 el t v=some x):v=.d (.list el t) x:=by
 unfold zD4 at e;split at e
 ·rename_i el' t' xs;split at e
  ·rename_i ht;subst ht
   cases hk:Nat.beq el' el with
   | false=>rw[hk] at e;cases e
   | true =>
     rw[hk] at e;cases e;have:el'=el:=zPL hk;subst this;rfl
  ·cases e
 ·cases e
theorem qYX {x:List Int}(e:q7N el k v=some x):v.enc=.f (fvo el k x):=by
 unfold q7N at e;split at e
 ·rename_i el' k' xs
  cases hk:(Nat.beq el' el&&decide (k'=k)) with
  | false=>rw[hk] at e;cases e
  | true =>
    rw[hk] at e;cases e;rw[zPK] at hk;have h1:el'=el:=zPL hk.1;have h2:k'=k:=by simpa using hk.2
    subst h1 h2;simp[SV.enc,Ty.fv]
 ·cases e;simp[SV.enc,fvo,fvv]
 ·cases e
theorem qAO:∀ {t:Ty} {v:SV} {x:t.sem},t.zKP v=some x->v.enc=.f (t.fv x)∧t.one=true
 | .int k,v,x,e=>⟨pQ e,rfl⟩
 | .bool,v,x,e=>⟨sS e,rfl⟩
 | .str,v,x,e=>⟨fU e,rfl⟩
 | .list el t,v,x,e=>⟨by rw[q3X e];simp[SV.enc],rfl⟩
 | .ol el k,v,x,e=>⟨qYX e,rfl⟩
 | .nif,v,x,e=>by
   have e:q5Z v=some x:=e;refine⟨?_,rfl⟩;unfold q5Z at e;split at e
   ·simp[SV.enc,Ty.fv]
   ·simp[SV.enc,Ty.fv,fvv]
   ·cases e
 | .raw,v,x,e=>by
   have e:asR v=some x:=e;refine⟨?_,rfl⟩;unfold asR at e;split at e
   ·cases e;simp[SV.enc]
   ·cases e
 | .unit,v,x,e=>by cases e
 | .pair a b,v,x,e=>by cases e
def q2J (t:Ty):List SV->Option (t.sem×List SV)
 | v::l=>match t.zKP v with
   | some x=>some (x,l)
   | none=>none
 | []=>none
def Ty.zJA:(t:Ty)->List SV->Option (t.sem×List SV)
 | .int k,l=>q2J (.int k) l
 | .bool,l=>q2J .bool l
 | .str,l=>q2J .str l
 | .raw,l=>q2J .raw l
 | .ol el k,l=>q2J (.ol el k) l
 | .nif,l=>q2J .nif l
 | .list el t,l=>q2J (.list el t) l
 | .unit,l=>some ((),l)
 | .pair a b,l=>match a.zJA l with
   | some (x,l1)=>(match b.zJA l1 with
     | some (y,l2)=>some ((x,y),l2)
     | none=>none)
   | none=>none
theorem fF {t:Ty}{l':List SV}{x:t.sem}(e:q2J t l=some (x,l')):qB l=(t.cells x).map .f++qB l':=by
 cases l with
 | nil=>cases e
 | cons v l =>
   unfold q2J at e;simp only at e;split at e
   ·rename_i y hy;cases e;obtain⟨h1,h2⟩:=qAO hy;rw[Ty.cells_one h2];simp[qB,h1]
   ·cases e
theorem qA3:∀ {t:Ty} {l l':List SV} {x:t.sem},t.zJA l=some (x,l')->qB l=(t.cells x).map .f++qB l'
 | .int k,l,l',x,e=>fF e
 | .bool,l,l',x,e=>fF e
 | .str,l,l',x,e=>fF e
 | .raw,l,l',x,e=>fF e
 | .ol _ _,l,l',x,e=>fF e
 | .nif,l,l',x,e=>fF e
 | .list el t,l,l',x,e=>fF e
 | .unit,l,l',x,e=>by cases e;simp[Ty.cells]
 | .pair a b,l,l',x,e=>by
   unfold Ty.zJA at e;split at e
   ·rename_i x1 l1 h1;split at e
    ·rename_i y l2 h2;cases e;show qB l=(a.cells x1++b.cells y).map .f++qB l';rw[qA3 h1,qA3 h2,zQX,zQK]
    ·cases e
   ·cases e
def Ty.zIW (t:Ty)(l:List SV):Option t.sem:=match t.zJA l with
 | some (x,[])=>some x
 | _=>none
theorem oG {t:Ty}{x:t.sem}(e:t.zIW l=some x):qB l=(t.cells x).map .f:=by
 unfold Ty.zIW at e;split at e
 ·rename_i y hy;cases e;rw[qA3 hy];simp[qB]
 ·cases e
def qF9 (P:Program)(t:TypeId)(l:List SV)(off:Nat):Option SV:=match qMJ P t with
 | some true=>(match szT P t with
   | some n=>cond (Nat.ble (off+n) l.length) (some (.agg ((l.drop off).take n))) none
   | none=>none)
 | some false=>zJ l off
 | none=>none
omit [Yl] in
theorem qNG {b:List SV}(x:okL h a)(hs:∀ z∈b,z∈a):okL h b:=zL.2 fun z hz=>zL.1 x z (hs z hz)
theorem qG2 (e:qF9 P t l off=some v):aQ P t (qB l) off=some v.enc∧(okL h l->v.ok h):=by
 unfold qF9 at e;unfold aQ;split at e
 ·rename_i ha;rw[ha];simp only;split at e
  ·rename_i n hn;rw[hn];simp only
   cases hc:Nat.ble (off+n) l.length with
   | false=>rw[hc] at e;cases e
   | true =>
     rw[hc] at e;cases e;refine⟨by rw[zH,zPR,hc];simp[SV.enc,zH,zRV,zRQ],fun ho=>?_⟩;simp only[SV.ok];exact qNG ho fun z hz=>zSJ (zR4 hz)
  ·cases e
 ·rename_i ha;rw[ha];simp only;rw[qX,e];exact⟨rfl,fun ho=>nG ho e⟩
 ·cases e
theorem qBC {t':Ty}{xs:List t'.sem}{x:t'.sem}(hx:xs[j]?=some x)(e:qF9 P t (t'.svs x) off=some v) :
 aQ P t ((xs.flatMap t'.cells).map .f) (j*t'.w+off)=some v.enc∧qOS P t (xs.flatMap t'.cells) (j*t'.w+off)=some v.enc∧v.ok h:=by
 have h0:=qG2 (h:=h) e;refine⟨?_,?_,h0.2 (qFU t' x)⟩
 all_goals
  have h1:=h0.1;rw[fP] at h1;unfold aQ at h1
 ·unfold aQ;split at h1
  ·rename_i ha;split at h1
   ·rename_i n hn
    cases hc:Nat.ble (off+n) ((t'.cells x).map PV.f).length with
    | false=>rw[hc] at h1;cases h1
    | true =>
      rw[hc] at h1
      have hle:off+n<=t'.w:=by
       have:=zPU hc;rw[zPR,t'.zGG] at this;exact this
      rw[show Nat.ble (j*t'.w+off+n) ((xs.flatMap t'.cells).map PV.f).length=true from zPY (by rw[zPR];exact qHK hx hle)];simp only[cond_true] at h1 ⊢;rw[<-h1,<-zRV,<-zRQ,qKI hx hle,<-zRV,<-zRQ]
   ·cases h1
  ·rename_i ha;rw[qF,zP0] at h1 ⊢
   have hlt:off < t'.w:=by
    rw[<-t'.zGG x]
    cases hq:(t'.cells x)[off]? with
    | none=>rw[hq] at h1;cases h1
    | some y=>exact (zPQ.1 hq).1
   rw[Go.Sv.flat_get hx hlt];exact h1
  ·cases h1
 ·unfold qOS;split at h1
  ·rename_i ha;split at h1
   ·rename_i n hn
    cases hc:Nat.ble (off+n) ((t'.cells x).map PV.f).length with
    | false=>rw[hc] at h1;cases h1
    | true =>
      rw[hc] at h1
      have hle:off+n<=t'.w:=by
       have:=zPU hc;rw[zPR,t'.zGG] at this;exact this
      rw[show Nat.ble (j*t'.w+off+n) (xs.flatMap t'.cells).length=true from zPY (qHK hx hle)];simp only[cond_true] at h1 ⊢;rw[<-h1,qKI hx hle,<-zRV,<-zRQ]
   ·cases h1
  ·rename_i ha;rw[qF,zP0] at h1
   cases hq:(t'.cells x)[off]? with
   | none=>rw[hq] at h1;cases h1
   | some y =>
     rw[hq] at h1
     have hlt:off < t'.w:=by
      rw[<-t'.zGG x];exact (zPQ.1 hq).1
     rw[Go.Sv.flat_get hx hlt,hq];exact h1
  ·cases h1
def zC2:List SV->Option IntKind
 | v::_=>(asI v).map Prod.fst
 | []=>none
def qDD (ik:IntKind):List SV->Option (List Int)
 | []=>some []
 | v::l=>match q7O ik v,qDD ik l with
   | some x,some xs=>some (x::xs)
   | _,_=>none
def q45 (off:Nat)(v:Int)(xs:List Int):Option (List Int):=if off < xs.length then some (xs.set off v) else none
def spread (ik:IntKind)(n:Nat)(ys:List Int):List SV:=(List.range n).map fun i=>SV.d (.int ik) (ys.getD i 0:Int)
theorem wZ {ik:IntKind}:∀ {l:List SV} {xs:List Int},qDD ik l=some xs->qB l=xs.map fun x=>fvv (.int ik x)
 | [],xs,e=>by cases e;simp[qB]
 | v::l,xs,e=>by
   unfold qDD at e;split at e
   ·rename_i x ys hx hy;cases e;simp only[qB,zP3,pQ hx,wZ hy]
   ·cases e
theorem rP (h:ys.length=n):qB (spread ik n ys)=ys.map fun x=>fvv (.int ik x):=by
 rw[zH];unfold spread;rw[zRR];apply zQ1;intro i;rw[zP0,zP0];by_cases hi:i < n
 ·rw[zT2 hi,zPO (by omega:i < ys.length)];simp only[zPZ,Function.comp,zPT];rw[zQZ,zPO (by omega:i < ys.length)];simp[SV.enc,Ty.fv,fvv]
 ·rw[zQ0 (by simp;omega),zQ0 (by omega)];rfl
theorem qK7:okL h (spread ik n ys):=zL.2 fun x hx=>by
 unfold spread at hx;obtain⟨i,_,rfl⟩:=zQB.1 hx;simp[SV.ok]
def zC5 (P:Program)(t:TypeId)(off w:Nat)(el:TypeId)(ik:IntKind)(xs:List Int)(K:SV->zF6 R):zF6 R:=cond (spec P el) .fail (match qMJ P t,szT P t with
 | some false,_=>.ite (Nat.beq w (List.length xs)) (.bind (xs[off]?) fun x=>K (.d (.int ik) (x:Int))) .fail
 | some true,some n=>cond (Nat.beq off 0&&Nat.beq n w) (.ite (Nat.beq w (List.length xs)) (K (.agg (spread ik w xs))) .fail) .fail
 | _,_=>.fail)
theorem qVK {k:Nat}{K:SV->zF6 R}(hk:qA k (qC h.l)=some (SO.spc w' (.arr el ik xs)).enc)(e:(zC5 P t off w el ik xs K).run=some r):∃ v,fT P t (.ref k w off) (qC h.l)=some v.enc∧v.ok h∧(K v).run=some r:=by
 unfold zC5 at e
 cases hsp:spec P el with
 | true=>rw[hsp] at e;cases e
 | false =>
 rw[hsp] at e;simp only[cond_false] at e
 have pre:fT P t (.ref k w off) (qC h.l)=cond (Nat.beq w xs.length) (aQ P t (xs.map fun x=>fvv (.int ik x)) off) none:=by
  simp only[fT,hk];show cond (spec P el) none (cond (Nat.beq w (xs.map fun x=>fvv (.int ik x)).length) _ none)=_;rw[hsp,zPR];rfl
 rw[pre];split at e
 ·rename_i ha
  rcases run_ite e with ⟨z,e1⟩ | ⟨_,e1⟩
  ·obtain⟨x,hx,e2⟩:=run_bind e1;refine⟨_,?_,by simp[SV.ok],e2⟩;rw[z];simp only[cond_true,aQ,ha];rw[qF,zP0,hx];simp[SV.enc,Ty.fv,fvv]
  ·cases e1
 ·rename_i n ha hn;obtain⟨c,e0⟩:=qE e;rw[zPK] at c;have h0:=zPL c.1;have h1:=zPL c.2;subst h0 h1
  rcases run_ite e0 with ⟨z,e1⟩ | ⟨_,e1⟩
  ·refine⟨_,?_,by simp only[SV.ok];exact qK7,e1⟩;have hl:=zPL z;rw[z];simp only[cond_true,aQ,ha,hn];rw[show Nat.ble (0+n) (xs.map fun x=>fvv (.int ik x)).length=true from zPY (by rw[zPR];omega)];simp only[cond_true,zQ4,SV.enc];rw[rP hl.symm,zQD (by rw[zPR];omega)]
  ·cases e1
 ·cases e
def q64 (P:Program)(t:TypeId)(a:SV)(h:SH)(K:SV->zF6 R):zF6 R:=match a with
 | .ref k off w=>(match slk k h.l with
   | some (.cells el _ l)=>(match qF9 P t l off with
     | some v=>cond (!(spec P el)&&Nat.beq w l.length) (K v) .fail
     | none=>.fail)
   | some (.spc _ (.arr el ik xs))=>zC5 P t off w el ik xs K
   | _=>.fail)
 | .elt k g n w j off=>(match slk k h.l with
   | some (.list _ _ g' _ t' xs)=>cond (Nat.beq g g'&&Nat.beq w t'.w) (.bind (xs[j]?) fun x=>match qF9 P t (t'.svs x) off with
     | some v=>K v
     | none=>.fail) .fail
   | _=>.fail)
 | .lp t' xs j off=>.bind (xs[j]?) fun x=>match qF9 P t (t'.svs x) off with
   | some v=>K v
   | none=>.fail
 | .rfx k off w=>(match slk k h.l with
   | some (.cells el _ l)=>(match zC2 l with
     | some ik=>(match qDD ik l,qMJ P t with
       | some xs,some false=>cond (!(spec P el)&&Nat.beq w l.length) (.bind (xs[off]?) fun x=>K (.d (.int ik) (x:Int))) .fail
       | _,_=>.fail)
     | none=>.fail)
   | some (.spc _ (.arr el ik xs))=>zC5 P t off w el ik xs K
   | _=>.fail)
 | .etx k g n w j off=>(match slk k h.l with
   | some (.list _ _ g' _ t' xs)=>cond (Nat.beq g g'&&Nat.beq w t'.w) (.bind (xs[j]?) fun x=>match zC2 (t'.svs x) with
     | some ik=>(match qDD ik (t'.svs x),qMJ P t with
       | some ys,some false=>.bind (ys[off]?) fun z=>K (.d (.int ik) (z:Int))
       | _,_=>.fail)
     | none=>.fail) .fail
   | _=>.fail)
 | _=>.fail
theorem qQ (l:List SV):(qB l).length=l.length:=by rw[zH,zPR]
theorem zN {k:Nat}{ob:SO}{l:List (Nat×SO)}(e:slk k l=some ob):qA k (qC l)=some ob.enc:=by rw[vJ,e];rfl
theorem qV {gr:Bool}{g:Nat}{t:Ty}{xs:List t.sem}:(SO.list el gr g w t xs).enc.cs.length=xs.length*t.w:=by
 show ((xs.flatMap t.cells).map PV.f).length=_;rw[zPR,zW]
theorem q09 {a:SV}{K:SV->zF6 R}(ho:OkH P h)(ha:a.ok h)(e:(q64 P t a h K).run=some r):∃ v,fT P t a.enc (qC h.l)=some v.enc∧v.ok h∧(K v).run=some r:=by
 unfold q64 at e;split at e
 ·rename_i k off w;split at e
  ·rename_i el w' l hk;split at e
   ·rename_i v hv;obtain⟨h1,h2⟩:=qE e;rw[zPK,zQH] at h1;obtain⟨hsp,h1⟩:=h1;obtain⟨h3,h4⟩:=qG2 (h:=h) hv;refine⟨v,?_,h4 (ho.cells _ _ _ _ hk),h2⟩;simp only[SV.enc,fT,zN hk];show cond (spec P el) none (cond (Nat.beq w (qB l).length) (aQ P t (qB l) off) none)=_;rw[qQ,h1,hsp];exact h3
   ·cases e
  ·rename_i w' el ik xs hk;obtain⟨v,h1,h2,h3⟩:=qVK (zN hk) e;exact⟨v,by simp only[SV.enc];exact h1,h2,h3⟩
  ·cases e
 ·rename_i k g n w j off;split at e
  ·rename_i el gr g' w' t' xs hk;obtain⟨h1,h2⟩:=qE e;rw[zPK] at h1;have hg:g=g':=zPL h1.1;have hw:w=t'.w:=zPL h1.2;subst hg hw;obtain⟨x,hx,h3⟩:=run_bind h2;split at h3
   ·rename_i v hv;have h5:=qBC (h:=h) hx hv;refine⟨v,?_,h5.2.2,h3⟩;simp only[SV.ok] at ha;have hn:n=xs.length:=ha.2 _ _ _ _ _ hk;simp only[SV.enc,fT,zN hk];rw[qV,hn,show spec P (SO.list el gr g w' t' xs).enc.el=false from kF (ho.list _ _ _ _ _ _ _ hk).2.1];simp only[aI,cond_true,cond_false];exact h5.1
   ·cases h3
  ·cases e
 ·rename_i t' xs j off;obtain⟨x,hx,h3⟩:=run_bind e;split at h3
  ·rename_i v hv;have h5:=qBC (h:=h) hx hv;exact⟨v,by simp only[SV.enc,fT];exact h5.2.1,h5.2.2,h3⟩
  ·cases h3
 ·rename_i k off w;split at e
  ·rename_i el w' l hk;split at e
   ·rename_i ik hik;split at e
    ·rename_i xs hxs hag;obtain⟨h1,h2⟩:=qE e;rw[zPK,zQH] at h1;obtain⟨hsp,h1⟩:=h1;obtain⟨x,hx,h3⟩:=run_bind h2;refine⟨_,?_,by simp[SV.ok],h3⟩;simp only[SV.enc,fT,zN hk];show cond (spec P el) none (cond (Nat.beq w (qB l).length) (aQ P t (qB l) off) none)=_;rw[qQ,h1,hsp];simp only[cond_true,cond_false];unfold aQ;rw[hag];show zJ (qB l) off=_;rw[qF,wZ hxs,zP0,hx];simp[Ty.fv,fvv]
    ·cases e
   ·cases e
  ·rename_i w' el ik xs hk;obtain⟨v,h1,h2,h3⟩:=qVK (zN hk) e;exact⟨v,by simp only[SV.enc];exact h1,h2,h3⟩
  ·cases e
 ·rename_i k g n w j off;split at e
  ·rename_i el gr g' w' t' xs hk;obtain⟨h1,h2⟩:=qE e;rw[zPK] at h1;have hg:g=g':=zPL h1.1;have hw:w=t'.w:=zPL h1.2;subst hg hw;obtain⟨x,hx,h3⟩:=run_bind h2;split at h3
   ·rename_i ik hik;split at h3
    ·rename_i ys hys hag;obtain⟨z,hz,h4⟩:=run_bind h3;refine⟨_,?_,by simp[SV.ok],h4⟩;have hn1:zJ (qB (t'.svs x)) off=some (fvv (.int ik z)):=by rw[qF,wZ hys,zP0,hz];rfl
     rw[qX] at hn1;obtain⟨v0,hv0,hv1⟩:=zPV.1 hn1;have hsp:qF9 P t (t'.svs x) off=some v0:=by unfold qF9;rw[hag];exact hv0
     have h5:=qBC (h:=h) hx hsp;simp only[SV.ok] at ha;have hn:n=xs.length:=ha.2 _ _ _ _ _ hk;simp only[SV.enc,fT,zN hk];rw[qV,hn,show spec P (SO.list el gr g w' t' xs).enc.el=false from kF (ho.list _ _ _ _ _ _ _ hk).2.1];simp only[aI,cond_true,cond_false];have h6:=h5.1;rw[hv1] at h6;rw[show (SO.list el gr g w' t' xs).enc.cs=(xs.flatMap t'.cells).map .f from rfl,h6];simp[Ty.fv,fvv]
    ·cases h3
   ·cases h3
  ·cases e
 ·cases e
def Post (P:Program)(h h':SH)(v:SV):Prop:=Keep h h'∧OkH P h'∧v.ok h'
def yN:SV->List SV
 | .agg l=>l
 | v=>[v]
theorem dH (v:SV):zG v.enc=qB (yN v):=by
 cases v <;> simp[SV.enc,zG,yN,qB,fvv];rename_i b _ _ _;cases b <;> rfl
omit [Yl] in
theorem qBJ (hv:v.ok h):okL h (yN v):=by
 cases v <;> simp only[yN,okL,SV.ok,and_true] at hv ⊢ <;> exact hv
def qC1 (l:List SV)(i:Nat)(vs:List SV):List SV:=l.take i++vs++l.drop (i+vs.length)
theorem qCN (l vs:List SV)(i:Nat):qB (qC1 l i vs)=yH (qB l) i (qB vs):=by
 simp[qC1,yH,zH,zRQ,zRV]
omit [Yl] in
theorem qP7 {vs:List SV}{i:Nat}(a:okL h l)(b:okL h vs):okL h (qC1 l i vs) :=
 gY (gY (qNG a fun z hz=>zR4 hz) b) (qNG a fun z hz=>zSJ hz)
omit [Yl] in
theorem q28 {α:Type}(A B C:List α)(c:List α)(hle:off+c.length<=B.length) :
 (A++B++C).take (A.length+off)++c++(A++B++C).drop (A.length+off+c.length)=A++(B.take off++c++B.drop (off+c.length))++C:=by
 rw[zQK A B C,List.take_append,zQD (by omega),zTG,List.take_append_of_le_length (by omega)];rw[zRH,List.drop_append,zTL (by omega),zTG,List.nil_append,List.drop_append_of_le_length (by omega)];simp[zQK]
omit [Yl] in
theorem qFG {t:Ty}{xs:List t.sem}{x:t.sem}(hx:xs[j]?=some x)(y:t.sem):(xs.set j y).flatMap t.cells=(xs.take j).flatMap t.cells++t.cells y++(xs.drop (j+1)).flatMap t.cells:=by
 have hl:=(zPQ.1 hx).1;rw[zRT,if_pos hl,zSQ,zQC,zQK]
omit [Yl] in
theorem qF1 {t:Ty}{xs:List t.sem}{x y:t.sem}(hx:xs[j]?=some x){c:List PV}(hle:off+c.length<=t.w)(hy:yH ((t.cells x).map .f) off c=(t.cells y).map .f) :
 yH ((xs.flatMap t.cells).map .f) (j*t.w+off) c=((xs.set j y).flatMap t.cells).map .f:=by
 have hl:=(zPQ.1 hx).1
 have e0:xs.set j x=xs:=by
  apply zQ1;intro i;rw[zQG];by_cases e:j=i
  ·subst e;rw[if_pos rfl,if_pos hl,hx]
  ·rw[if_neg e]
 have e1:=qFG hx x;rw[e0] at e1;rw[qFG hx y,e1];simp only[zQX];unfold yH;have hA:(((xs.take j).flatMap t.cells).map PV.f).length=j*t.w:=by rw[zPR,zW,zQV,zRA (by omega)]
 rw[<-hA,q28 _ _ _ _ (by rw[zPR,t.zGG];exact hle)];unfold yH at hy;rw[hy]
def zC3 (P:Program)(n off w:Nat)(el:TypeId)(ik:IntKind)(xs:List Int)(k:Nat)(x:SV)(h:SH)(K:SV->SH->zF6 R):zF6 R:=cond (spec P el) .fail (match x with
 | .agg l=>(match qDD ik l with
   | some ys=>cond (Nat.beq off 0&&(Nat.beq n w&&Nat.beq n (List.length l))) (.ite (Nat.beq w (List.length xs)) (K (.tup []) (h.put k fun u=>.spc u (.arr el ik ys))) .fail) .fail
   | none=>.fail)
 | x=>(match q7O ik x with
   | some v=>cond (Nat.beq n 1) (.ite (Nat.beq w (List.length xs)) (.bind (q45 off v xs) fun ys=>K (.tup []) (h.put k fun u=>.spc u (.arr el ik ys))) .fail) .fail
   | none=>.fail))
theorem qIT {ik:IntKind}:∀ {l:List SV} {xs:List Int},qDD ik l=some xs->xs.length=l.length
 | [],xs,e=>by cases e;rfl
 | v::l,xs,e=>by
   unfold qDD at e;split at e
   ·rename_i x ys hx hy;cases e;simp[qIT hy]
   ·cases e
theorem qYP {k:Nat}{K:SV->SH->zF6 R}(ho:OkH P h)(hn:szT P t=some n)(hk:slk k h.l=some (.spc w' (.arr el ik xs)))(e:(zC3 P n off w el ik xs k x h K).run=some r) :
 ∃ h',jQ P t (.ref k w off) x.enc (qC h.l)=some (qC h'.l)∧Keep h h'∧OkH P h'∧(K (.tup []) h').run=some r:=by
 unfold zC3 at e
 cases hsp:spec P el with
 | true=>rw[hsp] at e;cases e
 | false =>
 rw[hsp] at e;simp only[cond_false] at e;have hp:∀ ys:List Int,Keep h (h.put k fun u=>.spc u (.arr el ik ys))∧OkH P (h.put k fun u=>.spc u (.arr el ik ys)):=fun ys=>vY (f:=fun u=>.spc u (.arr el ik ys)) ho hk rfl
 have pre:jQ P t (.ref k w off) x.enc (qC h.l)=cond (Nat.beq w xs.length&&(Nat.beq n (zG x.enc).length&&(Nat.ble (off+n) xs.length&&(pnt x.enc&&(zG x.enc).all aK)))) (some (xR k ⟨el,false,yH (xs.map fun x=>fvv (.int ik x)) off (zG x.enc)⟩ (qC h.l))) none:=by
  simp only[jQ,zN hk,hn];show cond (spec P el) none (cond (Nat.beq w (xs.map fun x=>fvv (.int ik x)).length&&(Nat.beq n (zG x.enc).length&&(Nat.ble (off+n) (xs.map fun x=>fvv (.int ik x)).length&&(pnt x.enc&&(zG x.enc).all aK)))) _ none)=_;rw[hsp,zPR];rfl
 have fin:∀ ys:List Int,qC (h.put k fun u=>.spc u (.arr el ik ys)).l=xR k ⟨el,false,ys.map fun x=>fvv (.int ik x)⟩ (qC h.l):=fun ys=>xX k _ _
 split at e
 ·rename_i l;split at e
  ·rename_i ys hys;obtain⟨c,e0⟩:=qE e;simp only[zPK] at c;have h0:=zPL c.1;have h1:=zPL c.2.1;have h2:=zPL c.2.2;subst h0
   rcases run_ite e0 with ⟨z,e1⟩ | ⟨_,e1⟩
   ·have hl:=zPL z;refine⟨_,?_,(hp ys).1,(hp ys).2,e1⟩;rw[pre,fin ys];have hle:=qIT hys;simp only[SV.enc,zG,wZ hys,zPR];rw[z,show Nat.beq n ys.length=true by rw[hle,<-h2];exact aI _,show Nat.ble (0+n) xs.length=true from zPY (by omega),show ((ys.map fun x=>fvv (.int ik x)).all aK)=true by simp[zPN,fvv,aK]];simp only[pnt,zQE,cond_true];unfold yH;rw[List.take_zero,zTL (by simp only[zPR];omega)];simp
   ·cases e1
  ·cases e
 ·split at e
  ·rename_i v hv;obtain⟨c,e0⟩:=qE e;have h1:=zPL c;subst h1
   rcases run_ite e0 with ⟨z,e1⟩ | ⟨_,e1⟩
   ·obtain⟨ys,hys,e2⟩:=run_bind e1;unfold q45 at hys;split at hys
    case isFalse=>cases hys
    rename_i hlt;cases hys;refine⟨_,?_,(hp _).1,(hp _).2,e2⟩;rw[pre,fin,pQ hv];rw[show Nat.ble (off+1) xs.length=true from zPY hlt,z];show some (xR k ⟨el,false,yH (xs.map fun x=>fvv (.int ik x)) off [fvv (.int ik v)]⟩ (qC h.l))=_
    have:yH (xs.map fun x=>fvv (.int ik x)) off [fvv (.int ik v)]=(xs.set off v).map fun x=>fvv (.int ik x):=by
     rw[zTD,zRT,if_pos (by rw[zPR];exact hlt)];unfold yH;simp
    rw[this]
   ·cases e1
  ·cases e
def qWN (P:Program)(t:TypeId)(a x:SV)(h:SH)(K:SV->SH->zF6 R):zF6 R:=match szT P t with
 | some n=>(match a with
   | .ref k off w=>(match slk k h.l with
     | some (.cells el _ l)=>cond (!(spec P el)&&(Nat.beq w l.length&&(Nat.beq n (yN x).length&&(Nat.ble (off+n) l.length&&(pnt x.enc&&(qB (yN x)).all aK)))))
        (K (.tup []) (h.put k fun v=>.cells el v (qC1 l off (yN x)))) .fail
     | some (.spc _ (.arr el ik xs))=>zC3 P n off w el ik xs k x h K
     | _=>.fail)
   | .elt k g m w j off=>(match slk k h.l with
     | some (.list el gr g' _ t' xs)=>cond (Nat.beq g g'&&(Nat.beq w t'.w&&(Nat.beq n (yN x).length&&(Nat.ble (off+n) w&&(pnt x.enc&&(qB (yN x)).all aK)))))
        (.bind (xs[j]?) fun y=>match t'.zIW (qC1 (t'.svs y) off (yN x)) with
          | some z=>K (.tup []) (h.put k fun v=>.list el gr g v t' (List.set xs j z))
          | none=>.fail) .fail
     | _=>.fail)
   | .rfx k off w=>(match slk k h.l with
     | some (.cells el _ l)=>(match zC2 l with
       | some ik=>(match qDD ik l,q7O ik x with
         | some xs,some v=>cond (!(spec P el)&&(Nat.beq w l.length&&Nat.beq n 1)) (.bind (q45 off v xs) fun ys=>K (.tup []) (h.put k fun u=>.cells el u (spread ik (List.length xs) ys))) .fail
         | _,_=>.fail)
       | none=>.fail)
     | some (.spc _ (.arr el ik xs))=>zC3 P n off w el ik xs k x h K
     | _=>.fail)
   | .etx k g m w j off=>(match slk k h.l with
     | some (.list el gr g' _ t' xs)=>cond (Nat.beq g g'&&(Nat.beq w t'.w&&Nat.beq n 1)) (.bind (xs[j]?) fun y=>match zC2 (t'.svs y) with
       | some ik=>(match qDD ik (t'.svs y),q7O ik x with
         | some ys,some v=>.bind (q45 off v ys) fun zs=>match t'.zIW (spread ik (List.length ys) zs) with
           | some z=>K (.tup []) (h.put k fun v=>.list el gr g v t' (List.set xs j z))
           | none=>.fail
         | _,_=>.fail)
       | none=>.fail) .fail
     | _=>.fail)
   | _=>.fail)
 | none=>.fail
theorem qT9 {a:SV}{K:SV->SH->zF6 R}(ho:OkH P h)(ha:a.ok h)(hx:x.ok h)(e:(qWN P t a x h K).run=some r) :
 ∃ h',jQ P t a.enc x.enc (qC h.l)=some (qC h'.l)∧Keep h h'∧OkH P h'∧(K (.tup []) h').run=some r:=by
 unfold qWN at e;split at e
 ·rename_i n hn;split at e
  ·rename_i k off w;split at e
   ·rename_i el w' l hk;obtain⟨h1,h2⟩:=qE e;rw[zPK,zQH] at h1;obtain⟨hsp,h1⟩:=h1;have hp:=vY (f:=fun v=>.cells el v (qC1 l off (yN x))) ho hk ⟨rfl,qP7 (ho.cells _ _ _ _ hk) (qBJ hx)⟩;refine⟨_,?_,hp.1,hp.2,h2⟩;simp only[SV.enc,jQ,zN hk,hn];show cond (spec P el) none (cond (Nat.beq w (qB l).length&&(Nat.beq n (zG x.enc).length&&(Nat.ble (off+n) (qB l).length&&(pnt x.enc&&(zG x.enc).all aK)))) _ _)=_;rw[dH,qQ,qQ,h1,hsp];simp only[cond_true];rw[show qC (h.put k fun v=>.cells el v (qC1 l off (yN x))).l=xR k (SO.enc (.cells el h.next (qC1 l off (yN x)))) (qC h.l) from xX k _ _];show some (xR k ⟨el,false,yH (qB l) off (qB (yN x))⟩ (qC h.l))=some (xR k ⟨el,false,qB (qC1 l off (yN x))⟩ (qC h.l));rw[qCN]
   ·rename_i w' el ik xs hk;obtain⟨h',h1,h2,h3,h4⟩:=qYP (t:=t) ho hn hk e;exact⟨h',by simp only[SV.enc];exact h1,h2,h3,h4⟩
   ·cases e
  ·rename_i k g m w j off;split at e
   ·rename_i el gr g' w' t' xs hk;obtain⟨h1,h2⟩:=qE e;simp only[zPK] at h1;obtain⟨q1,q2,q3,q4,q5,q6⟩:=h1;have hg:g=g':=zPL q1;have hw:w=t'.w:=zPL q2;subst hg hw;obtain⟨y,hy,h3⟩:=run_bind h2;split at h3
    ·rename_i z hz;have hp:=vY (f:=fun v=>.list el gr g v t' (List.set xs j z)) ho hk ⟨_,rfl,by simp⟩;refine⟨_,?_,hp.1,hp.2,h3⟩;simp only[SV.ok] at ha;have hm:m=xs.length:=ha.2 _ _ _ _ _ hk;have hle:off+n<=t'.w:=zPU q4;simp only[SV.enc,jQ,zN hk,hn];rw[qV,hm,dH,qQ,show spec P (SO.list el gr g w' t' xs).enc.el=false from kF (ho.list _ _ _ _ _ _ _ hk).2.1]
     have hjl:j*t'.w+off+n<=xs.length*t'.w:=by
      have:=qHK hy hle
      rwa [zW] at this
     rw[q3,q5,q6,show Nat.ble (j*t'.w+off+n) (xs.length*t'.w)=true from zPY hjl];simp only[aI,zQE,cond_true,cond_false];rw[show qC (h.put k fun v=>.list el gr g v t' (List.set xs j z)).l=xR k (SO.enc (.list el gr g h.next t' (List.set xs j z))) (qC h.l) from xX k _ _];show some (xR k ⟨el,gr,yH ((xs.flatMap t'.cells).map .f) (j*t'.w+off) (qB (yN x))⟩ (qC h.l))=some (xR k ⟨el,gr,((List.set xs j z).flatMap t'.cells).map .f⟩ (qC h.l));have hnl:n=(qB (yN x)).length:=by rw[qQ];exact zPL q3
     rw[qF1 hy (y:=z) (by rw[<-hnl];exact hle) (by rw[<-fP,<-qCN];exact oG hz)]
    ·cases h3
   ·cases e
  ·rename_i k off w;split at e
   ·rename_i el w' l hk;split at e
    ·rename_i ik hik;split at e
     ·rename_i xs v hxs hv;obtain⟨h1,h2⟩:=qE e;simp only[zPK,zQH] at h1;obtain⟨hsp,hw,hn1⟩:=h1;have hn2:=zPL hn1;subst hn2;obtain⟨ys,hys,h3⟩:=run_bind h2;unfold q45 at hys;split at hys
      case isFalse=>cases hys
      rename_i hlt;cases hys;have hp:=vY (f:=fun u=>.cells el u (spread ik (List.length xs) (xs.set off v))) ho hk ⟨rfl,qK7⟩;refine⟨_,?_,hp.1,hp.2,h3⟩;have hel:=wZ hxs;have hll:(qB l).length=xs.length:=by rw[hel,zPR]
      simp only[SV.enc,jQ,zN hk,hn];rw[pQ hv];show cond (spec P el) none (cond (Nat.beq w (qB l).length&&(Nat.beq 1 1&&(Nat.ble (off+1) (qB l).length&&(true&&true)))) (some (xR k ⟨el,false,yH (qB l) off [fvv (.int ik v)]⟩ (qC h.l))) none)=_;rw[hsp,show Nat.beq w (qB l).length=true by rw[qQ];exact hw,hll,show Nat.ble (off+1) xs.length=true from zPY hlt];rw[show qC (h.put k fun u=>.cells el u (spread ik (List.length xs) (xs.set off v))).l=xR k (SO.enc (.cells el h.next (spread ik (List.length xs) (xs.set off v)))) (qC h.l) from xX k _ _];show some (xR k ⟨el,false,yH (qB l) off [fvv (.int ik v)]⟩ (qC h.l))=some (xR k ⟨el,false,qB (spread ik (List.length xs) (xs.set off v))⟩ (qC h.l));rw[rP (by simp),hel]
      have:yH (xs.map fun x=>fvv (.int ik x)) off [fvv (.int ik v)]=(xs.set off v).map fun x=>fvv (.int ik x):=by
       rw[zTD,zRT,if_pos (by rw[zPR];exact hlt)];unfold yH;simp
      rw[this]
     ·cases e
    ·cases e
   ·rename_i w' el ik xs hk;obtain⟨h',h1,h2,h3,h4⟩:=qYP (t:=t) ho hn hk e;exact⟨h',by simp only[SV.enc];exact h1,h2,h3,h4⟩
   ·cases e
  ·rename_i k g m w j off;split at e
   ·rename_i el gr g' w' t' xs hk;obtain⟨h1,h2⟩:=qE e;simp only[zPK] at h1;obtain⟨q1,q2,q3⟩:=h1;have hg:g=g':=zPL q1;have hw:w=t'.w:=zPL q2;have hn2:=zPL q3;subst hg hw hn2;obtain⟨y,hy,h3⟩:=run_bind h2;split at h3
    ·rename_i ik hik;split at h3
     ·rename_i ys v hys hv;obtain⟨zs,hzs,h4⟩:=run_bind h3;split at h4
      ·rename_i z hz;unfold q45 at hzs;split at hzs
       case isFalse=>cases hzs
       rename_i hlt;cases hzs;have hp:=vY (f:=fun v=>.list el gr g v t' (List.set xs j z)) ho hk ⟨_,rfl,by simp⟩;refine⟨_,?_,hp.1,hp.2,h4⟩;simp only[SV.ok] at ha;have hm:m=xs.length:=ha.2 _ _ _ _ _ hk;have hel:=wZ hys
       have hcw:ys.length=t'.w:=by
        have:=congrArg List.length hel;rw[fP,zPR,zPR,t'.zGG] at this;exact this.symm
       have hle:off+1<=t'.w:=by omega
       simp only[SV.enc,jQ,zN hk,hn];rw[qV,hm,pQ hv,show spec P (SO.list el gr g w' t' xs).enc.el=false from kF (ho.list _ _ _ _ _ _ _ hk).2.1]
       have hjl:j*t'.w+off+1<=xs.length*t'.w:=by
        have:=qHK hy hle
        rwa [zW] at this
       rw[show Nat.ble (j*t'.w+off+1) (xs.length*t'.w)=true from zPY hjl];simp only[aI,cond_false];show some (xR k ⟨el,gr,yH ((xs.flatMap t'.cells).map .f) (j*t'.w+off) [fvv (.int ik v)]⟩ (qC h.l))=_;rw[show qC (h.put k fun v=>.list el gr g v t' (List.set xs j z)).l=xR k (SO.enc (.list el gr g h.next t' (List.set xs j z))) (qC h.l) from xX k _ _];show _=some (xR k ⟨el,gr,((List.set xs j z).flatMap t'.cells).map .f⟩ (qC h.l));rw[qF1 hy (y:=z) hle ?_];rw[<-oG hz,rP (by simp),<-fP,hel,zTD,zRT,if_pos (by rw[zPR];exact hlt)];unfold yH;simp
      ·cases h4
     ·cases h3
    ·cases h3
   ·cases e
  ·cases e
 ·cases e
end
end Go.Sv
namespace Go.Sv
open Go.Idl
noncomputable section
variable [Gc]
variable [Yl]
variable {P:Program}{h:SH}{R:Type}{r:R}
def tyL:List (Option Ty)->Option Ty
 | []=>some .unit
 | [t]=>t.map fun t=>.pair t .unit
 | [a,b]=>match a,b with
   | some a,some b=>some (.pair a b)
   | _,_=>none
 | a::l=>match a,tyL l with
   | some a,some b=>some (.pair a b)
   | _,_=>none
def zFE (P:Program)(t:TypeId):Option Ty:=match P.underlying t with
 | some (.slice el)=>(match P.underlying el with
   | some (.int k)=>some (.ol el k)
   | _=>none)
 | _=>none
def qDK (P:Program):Nat->TypeId->Option Ty
 | 0,_=>none
 | n+1,t=>match P.underlying t with
   | some (.int k)=>some (.int k)
   | some .bool=>some .bool
   | some .string=>some .str
   | some (.slice el)=>(match qDK P n el with
     | some u=>some (.list el u)
     | none=>none)
   | some (.struct fields)=>tyL (fields.toList.map fun f=>cond (Gc.ol f.type) (zFE P f.type) (qDK P n f.type))
   | some (.array k el)=>tyL (List.replicate k (qDK P n el))
   | some (.interface ..)=>some .nif
   | _=>none
def zcS (P:Program)(t:TypeId):Option (List SV):=match qBQ P t with
 | some z=>cond (jK okC z.cells.toList) (some (kY .c z.cells.toList)) none
 | none=>none
theorem mV {t:TypeId}{l:List SV}(e:zcS P t=some l):zc P t=some (qB l)∧okL h l:=by
 unfold zcS at e;unfold zc;split at e
 ·rename_i z hz
  cases hc:jK okC z.cells.toList with
  | false=>rw[hc] at e;cases e
  | true =>
    rw[hc] at e;cases e;rw[hz];simp only[hc,cond_true];exact⟨by rw[zCV],zDF _⟩
 ·cases e
def zDT (P:Program)(el:TypeId)(l:List SV):Option (Nat×IntKind×List Int):=match qPQ P el with
 | some (m,e2)=>(match qDK P 8 e2 with
   | some (.int ik)=>(match qDD ik l with
     | some xs=>cond (Nat.beq l.length m) (some (m,ik,xs)) none
     | none=>none)
   | _=>none)
 | none=>none
theorem qRF {el:TypeId}{l:List SV}{p:Nat×IntKind×List Int}(e:zDT P el l=some p):qB l=(p.2.2.map fun x=>fvv (.int p.2.1 x))∧l.length=p.1:=by
 unfold zDT at e;split at e
 ·split at e
  ·split at e
   ·rename_i xs hx;obtain⟨hc,e⟩:=yP e;cases e;exact⟨wZ hx,zPL hc⟩
   ·cases e
  ·cases e
 ·cases e
def qUF (P:Program)(el:TypeId)(k:Nat)(h:SH)(K:SV->SH->zF6 R):zF6 R:=match zcS P el with
 | some l=>cond (spec P el) .fail (match zDT P el l with
   | some p=>K (.ref k 0 p.1) (h.new k fun v=>.spc v (.arr el p.2.1 p.2.2))
   | none=>K (.ref k 0 l.length) (h.new k fun v=>.cells el v l))
 | none=>.fail
theorem qZT {el:TypeId}{k:Nat}{K:SV->SH->zF6 R}(ho:OkH P h)(e:(qUF P el k h K).run=some r):∃ v h',mO P el k (qC h.l)=some (v.enc,qC h'.l)∧Post P h h' v∧(K v h').run=some r:=by
 unfold qUF at e;split at e
 ·rename_i l hl;obtain⟨h1,h2⟩:=mV (h:=h) hl;have hp:=xL (k:=k) (f:=fun v=>.cells el v l) ho ⟨rfl,h2⟩
  cases hsp:spec P el with
  | true=>rw[hsp] at e;cases e
  | false =>
  rw[hsp] at e;simp only[cond_false] at e;split at e
  ·rename_i p hpa;have hp:=xL (k:=k) (f:=fun v=>.spc v (.arr el p.2.1 p.2.2)) ho rfl;refine⟨_,_,?_,⟨hp.1,hp.2,by simp[SV.ok]⟩,e⟩;simp only[mO,h1,qEA,SV.enc,qQ,hsp,cond_false];rw[<- (qRF hpa).2,(qRF hpa).1];rfl
  ·refine⟨_,_,?_,⟨hp.1,hp.2,by simp[SV.ok]⟩,e⟩;simp only[mO,h1,qEA,SV.enc,qQ,hsp,cond_false];rfl
 ·cases e
def zFB (P:Program)(el:TypeId)(v:SV)(k:Nat)(h:SH)(K:SV->SH->zF6 R):zF6 R :=
 cond (!(spec P el)&&(pnt v.enc&&(qB (yN v)).all aK)) (K (.ref k 0 (yN v).length) (h.new k fun n=>.cells el n (yN v))) .fail
theorem q88 {el:TypeId}{v:SV}{k:Nat}{K:SV->SH->zF6 R}(ho:OkH P h)(hv:v.ok h)(e:(zFB P el v k h K).run=some r):∃ x h',q29 P el v.enc k (qC h.l)=some (x.enc,qC h'.l)∧Post P h h' x∧(K x h').run=some r:=by
 obtain⟨h1,h2⟩:=qE e;have hp:=xL (k:=k) (f:=fun n=>.cells el n (yN v)) ho ⟨rfl,qBJ hv⟩;refine⟨_,_,?_,⟨hp.1,hp.2,by simp[SV.ok]⟩,h2⟩;unfold q29;rw[dH,h1];simp only[cond_true,qEA,SV.enc,qQ];rfl
def qTR (place:Nat->Option (Nat×Nat)):List SV->List (Nat×SV)->Option (List SV)
 | cells,[]=>some cells
 | cells,(i,v)::rest=>match place i with
   | some (off,size)=>cond (Nat.beq (yN v).length size&&(Nat.ble (off+size) cells.length&&(pnt v.enc&&(qB (yN v)).all aK))) (qTR place (qC1 cells off (yN v)) rest) none
   | none=>none
def q9D (l:List (Nat×SV)):List (Nat×PV):=l.map fun p=>(p.1,p.2.enc)
theorem oC {place:Nat->Option (Nat×Nat)}:∀ {l cs:List SV} {parts:List (Nat×SV)},qTR place l parts=some cs->qKS place (qB l) (q9D parts)=some (qB cs)∧(okL h l->(∀ p∈parts,p.2.ok h)->okL h cs)
 | l,cs,[],e=>by cases e;exact⟨rfl,fun a _=>a⟩
 | l,cs,(i,v)::rest,e=>by
   unfold qTR at e;split at e
   ·rename_i off size hpl
    cases hc:(Nat.beq (yN v).length size&&(Nat.ble (off+size) l.length&&(pnt v.enc&&(qB (yN v)).all aK))) with
    | false=>rw[hc] at e;cases e
    | true =>
      rw[hc] at e;obtain⟨h1,h2⟩:=oC (l:=qC1 l off (yN v)) e;refine⟨?_,fun a b=>h2 (qP7 a (qBJ (b _ zPX))) fun p hp=>b p (zPS _ hp)⟩
      show (match place i with
       | some (off,size)=>cond (Nat.beq (zG v.enc).length size&&(Nat.ble (off+size) (qB l).length&&(pnt v.enc&&(zG v.enc).all aK))) (qKS place (yH (qB l) off (zG v.enc)) (q9D rest)) none
       | none=>none)=some (qB cs)
      rw[hpl];simp only;rw[dH,qQ,qQ,hc,<-qCN];exact h1
   ·cases e
def qWL (P:Program)(t:TypeId)(parts:List (Nat×SV)):Option SV:=match zcS P t with
 | some z=>cond (qBI P t) (match qTR (qYB P t) z parts with
   | some cs=>some (.agg cs)
   | none=>none) none
 | none=>none
theorem qXN {t:TypeId}{parts:List (Nat×SV)}{v:SV}(hp:∀ p∈parts,p.2.ok h)(e:qWL P t parts=some v):qJV P t (q9D parts)=some v.enc∧v.ok h:=by
 unfold qWL at e;split at e
 ·rename_i z hz;obtain⟨h1,h2⟩:=mV (h:=h) hz
  cases hb:qBI P t with
  | false=>rw[hb] at e;cases e
  | true =>
    rw[hb] at e;simp only[cond_true] at e;split at e
    ·rename_i cs hcs;cases e;obtain⟨h3,h4⟩:=oC (h:=h) hcs;simp only[qJV,h1,hb,cond_true,h3,SV.enc,SV.ok,true_and];exact h4 h2 hp
    ·cases e
 ·cases e
def Ty.zKQ (t:Ty):Nat->List SV->Option (List t.sem)
 | 0,[]=>some []
 | 0,_::_=>none
 | n+1,l=>match t.zJA l with
   | some (x,l')=>(match t.zKQ n l' with
     | some xs=>some (x::xs)
     | none=>none)
   | none=>none
theorem qPD {t:Ty}:∀ {n:Nat} {l:List SV} {xs:List t.sem},t.zKQ n l=some xs->qB l=(xs.flatMap t.cells).map .f∧xs.length=n
 | 0,[],xs,e=>by cases e;simp[qB]
 | 0,_::_,xs,e=>by cases e
 | n+1,l,xs,e=>by
   unfold Ty.zKQ at e;split at e
   ·rename_i x l' hx;split at e
    ·rename_i ys hy;cases e;obtain⟨h1,h2⟩:=qPD hy;rw[qA3 hx,h1,zQC,zQX];exact⟨rfl,by rw[zP5,h2]⟩
    ·cases e
   ·cases e
def qTA (n:Nat)(z:List SV):List SV:=(List.replicate n z).flatten
theorem qAS (n:Nat)(z:List SV):qB (qTA n z)=qIQ n (qB z):=by simp[qTA,qIQ,zH,List.map_flatten]
def nL (P:Program)(t:TypeId)(len:Nat)(parts:List (Nat×SV))(k:Nat)(h:SH)(K:SV->SH->zF6 R):zF6 R:=match zS P t with
 | some el=>(match szT P el,zcS P el,qDK P 8 el with
   | some (s+1),some z,some ty=>cond (Nat.beq ty.w (s+1)) (cond (Nat.beq z.length (s+1)&&Nat.ble (len*(s+1)) 65536) (match qTR (fun i=>some (i*(s+1),s+1)) (qTA len z) parts with
     | some cs=>(match ty.zKQ len cs with
       | some xs=>K (.own k h.next len) (h.new k fun v=>.list el false v v ty xs)
       | none=>K (.own k h.next len) (h.new k fun v=>.cells el v cs))
     | none=>.fail) .fail) .fail
   | some (s+1),some z,none=>cond (Nat.beq z.length (s+1)&&Nat.ble (len*(s+1)) 65536) (match qTR (fun i=>some (i*(s+1),s+1)) (qTA len z) parts with
     | some cs=>K (.own k h.next len) (h.new k fun v=>.cells el v cs)
     | none=>.fail) .fail
   | _,_,_=>.fail)
 | none=>.fail
omit [Yl] in
theorem w9 {el:TypeId}{gr:Bool}{k n:Nat}{ty:Ty}{xs:List ty.sem}(hn:n=xs.length):(SV.own k h.next n).ok (h.new k fun v=>.list el gr v v ty xs):=by
 simp only[SV.ok];refine⟨zQI _,fun el' gr' w' t' xs' hk=>?_⟩;rw[show slk k (h.new k fun v=>.list el gr v v ty xs).l=some (.list el gr h.next h.next ty xs) from jL] at hk;cases hk;exact hn
theorem qD4 {t:TypeId}{len k:Nat}{parts:List (Nat×SV)}{K:SV->SH->zF6 R}(ho:OkH P h)(hp:∀ p∈parts,p.2.ok h)(e:(nL P t len parts k h K).run=some r) :
 ∃ v h',yC P t len (q9D parts) k (qC h.l)=some (v.enc,qC h'.l)∧Post P h h' v∧(K v h').run=some r:=by
 unfold nL at e;split at e
 ·rename_i el hel;split at e
  ·rename_i s z ty hs hz hty;obtain⟨e1,e⟩:=qE e;obtain⟨e2,e⟩:=qE e;split at e
   ·rename_i cs hcs;split at e
    ·rename_i xs hxs;obtain⟨z1,z2⟩:=mV (h:=h) hz;obtain⟨f1,f2⟩:=oC (h:=h) hcs;obtain⟨d1,d2⟩:=qPD hxs;have hw:ty.w=s+1:=zPL e1;have hn:=xL (k:=k) (f:=fun v=>.list el false v v ty xs) ho ⟨rfl,rfl,by rw[hs,hw],by omega⟩;refine⟨_,_,?_,⟨hn.1,hn.2,w9 d2.symm⟩,e⟩;rw[qAS] at f1;simp only[yC,hel,hs,z1,qQ,e2,cond_true,f1,qEA,SV.enc,d1];rfl
    ·obtain⟨z1,z2⟩:=mV (h:=h) hz;obtain⟨f1,f2⟩:=oC (h:=h) hcs
     have zJZ:okL h cs:=f2 (zL.2 fun x hx=>by
      unfold qTA at hx;obtain⟨l,hl,hx⟩:=zSM.1 hx;rw[zTE hl] at hx
      exact zL.1 z2 x hx) hp
     have hn:=xL (k:=k) (f:=fun v=>.cells el v cs) ho ⟨rfl,zJZ⟩;refine⟨_,_,?_,⟨hn.1,hn.2,?_⟩,e⟩
     ·rw[qAS] at f1;simp only[yC,hel,hs,z1,qQ,e2,cond_true,f1,qEA,SV.enc];rfl
     ·simp only[SV.ok];refine⟨zQI _,fun el' gr' w' t' xs' hk=>?_⟩;rw[show slk k (h.new k fun v=>.cells el v cs).l=some (.cells el h.next cs) from jL] at hk;cases hk
   ·cases e
  ·rename_i s z hs hz hty;obtain⟨e2,e⟩:=qE e;split at e
   ·rename_i cs hcs;obtain⟨z1,z2⟩:=mV (h:=h) hz;obtain⟨f1,f2⟩:=oC (h:=h) hcs
    have zJZ:okL h cs:=f2 (zL.2 fun x hx=>by
     unfold qTA at hx;obtain⟨l,hl,hx⟩:=zSM.1 hx;rw[zTE hl] at hx
     exact zL.1 z2 x hx) hp
    have hn:=xL (k:=k) (f:=fun v=>.cells el v cs) ho ⟨rfl,zJZ⟩;refine⟨_,_,?_,⟨hn.1,hn.2,?_⟩,e⟩
    ·rw[qAS] at f1;simp only[yC,hel,hs,z1,qQ,e2,cond_true,f1,qEA,SV.enc];rfl
    ·simp only[SV.ok];refine⟨zQI _,fun el' gr' w' t' xs' hk=>?_⟩;rw[show slk k (h.new k fun v=>.cells el v cs).l=some (.cells el h.next cs) from jL] at hk;cases hk
   ·cases e
  ·cases e
 ·cases e
def q65 (P:Program)(t:TypeId)(l:SV)(k:Nat)(h:SH)(K:SV->SH->zF6 R):zF6 R:=match zS P t,asI l with
 | some el,some (_,n)=>cond (zS P el).isSome (match szT P el,zcS P el with
   | some (s+1),some z=>cond (kZ P el&&Nat.beq z.length (s+1)) (.bind (mkN n) fun N=>K (.own k h.next N) (h.new k fun v=>.cells el v (qTA N z))) .fail
   | _,_=>.fail) (match szT P el,zcS P el,qDK P 8 el with
   | some (s+1),some z,some ty=>cond (kZ P el&&(Nat.beq z.length (s+1)&&Nat.beq ty.w (s+1))) (match ty.zIW z with
     | some z0=>.bind (mkN n) fun N=>K (.own k h.next N) (h.new k fun v=>.list el false v v ty (List.replicate N z0))
     | none=>.fail) .fail
   | _,_,_=>.fail)
 | _,_=>.fail
omit [Yl] in
theorem qPH {t:Ty}{z:t.sem}:∀ (n:Nat),((List.replicate n z).flatMap t.cells).map PV.f=qIQ n ((t.cells z).map .f)
 | 0=>rfl
 | n+1=>by
   rw[zRG,zQC,zQX,qPH n];simp[qIQ,zRG]
theorem q2B {t:TypeId}{l:SV}{k:Nat}{K:SV->SH->zF6 R}(ho:OkH P h)(e:(q65 P t l k h K).run=some r) :
 ∃ v h',xD P t l.enc l.enc k (qC h.l)=some (v.enc,qC h'.l)∧Post P h h' v∧(K v h').run=some r:=by
 unfold q65 at e;split at e
 ·rename_i el ki n hel hl
  cases hb:(zS P el).isSome with
  | true =>
    rw[hb] at e;simp only[cond_true] at e;split at e
    ·rename_i s z hs hz;obtain⟨e1,e⟩:=qE e;obtain⟨N,hN,e⟩:=run_bind e;obtain⟨z1,z2⟩:=mV (h:=h) hz
     have zJZ:okL h (qTA N z):=zL.2 fun x hx=>by
      unfold qTA at hx;obtain⟨l,hl,hx⟩:=zSM.1 hx;rw[zTE hl] at hx;exact zL.1 z2 x hx
     have hn:=xL (k:=k) (f:=fun v=>.cells el v (qTA N z)) ho ⟨rfl,zJZ⟩;refine⟨_,_,?_,⟨hn.1,hn.2,?_⟩,e⟩
     ·rw[yD hl];simp only[xD,fvv,hel,decide_true,cond_true,hN,hs,z1,qQ,e1,qEA,SV.enc];show some (PV.own k N 0 N,(k,(⟨el,false,qIQ N (qB z)⟩:PO))::qC h.l)=some (PV.own k N 0 N,(k,⟨el,false,qB (qTA N z)⟩)::qC h.l);rw[qAS]
     ·simp only[SV.ok];refine⟨zQI _,fun el' gr' w' t' xs' hk=>?_⟩;rw[show slk k (h.new k fun v=>.cells el v (qTA N z)).l=some (.cells el h.next (qTA N z)) from jL] at hk;cases hk
    ·cases e
  | false =>
  rw[hb] at e;simp only[cond_false] at e;split at e
  ·rename_i s z ty hs hz hty;obtain⟨e1,e⟩:=qE e;simp only[zPK] at e1;obtain⟨q1,q2,q3⟩:=e1;split at e
   ·rename_i z0 hz0;obtain⟨N,hN,e⟩:=run_bind e;obtain⟨z1,z2⟩:=mV (h:=h) hz;have hw:ty.w=s+1:=zPL q3;have hn:=xL (k:=k) (f:=fun v=>.list el false v v ty (List.replicate N z0)) ho ⟨rfl,rfl,by rw[hs,hw],by omega⟩;refine⟨_,_,?_,⟨hn.1,hn.2,w9 (xs:=List.replicate N z0) (by simp)⟩,e⟩;rw[yD hl];simp only[xD,fvv,hel,decide_true,cond_true,hN,hs,z1,qQ,q1,q2,zQE,qEA,SV.enc];show some (PV.own k N 0 N,(k,(⟨el,false,qIQ N (qB z)⟩:PO))::qC h.l)=some (PV.own k N 0 N,(k,⟨el,false,((List.replicate N z0).flatMap ty.cells).map PV.f⟩)::qC h.l);rw[qPH,oG hz0]
   ·cases e
  ·cases e
 ·cases e
def qWF (h:SH):SV->Bool
 | .ref k _ w=>match slk k h.l with
   | some (.cells _ _ l)=>Nat.beq w l.length
   | _=>false
 | .elt k g _ w _ _=>match slk k h.l with
   | some (.list _ _ g' _ t _)=>Nat.beq g g'&&Nat.beq w t.w
   | _=>false
 | .lp _ _ _ _=>true
 | _=>false
theorem qHR {k off w:Nat}(e:qWF h (.ref k off w)=true):live? k w (qC h.l)=true:=by
 simp only[qWF] at e;split at e
 ·rename_i el w' l hk;unfold live?;rw[zN hk];show Nat.beq w (qB l).length=true;rw[qQ];exact e
 ·cases e
theorem qHI {k g n w j off:Nat}(ho:(SV.elt k g n w j off).ok h)(e:qWF h (.elt k g n w j off)=true):live? k (n*w) (qC h.l)=true:=by
 simp only[qWF] at e;split at e
 ·rename_i el gr g' w' t xs hk;rw[zPK] at e;have hg:g=g':=zPL e.1;have hw:w=t.w:=zPL e.2;subst hg hw;simp only[SV.ok] at ho;unfold live?;rw[zN hk];show Nat.beq (n*t.w) (SO.list el gr g w' t xs).enc.cs.length=true;rw[qV,ho.2 _ _ _ _ _ hk];exact aI _
 ·cases e
def q8O (h:SH)(x:SV)(T:zF6 R):zF6 R:=match x with
 | .ref k _ w=>(match slk k h.l with
   | some (.spc _ (.arr _ _ xs))=>.ite (Nat.beq w (List.length xs)) T .fail
   | some (.cells _ _ l)=>cond (Nat.beq w l.length) T .fail
   | _=>.fail)
 | x=>cond (qWF h x) T .fail
theorem q1F {x:SV}{T:zF6 R}(e:(q8O h x T).run=some r):T.run=some r∧(∀ k o w,x=.ref k o w->live? k w (qC h.l)=true)∧(∀ k g n w j o,x=.elt k g n w j o->qWF h x=true):=by
 unfold q8O at e;split at e
 ·rename_i k o w;split at e
  ·rename_i w' el ik xs hk
   rcases run_ite e with ⟨z,e1⟩ | ⟨_,e1⟩
   ·refine⟨e1,fun k' o' w2 h=>?_,fun _ _ _ _ _ _ h=>by cases h⟩;cases h;unfold live?;rw[zN hk];show Nat.beq w (xs.map fun x=>fvv (.int ik x)).length=true;rw[zPR];exact z
   ·cases e1
  ·rename_i el w' l hk;obtain⟨z,e1⟩:=qE e;refine⟨e1,fun k' o' w2 h=>?_,fun _ _ _ _ _ _ h=>by cases h⟩;cases h;exact qHR (off:=o) (by simp only[qWF,hk];exact z)
  ·cases e
 ·rename_i hne;obtain⟨z,e1⟩:=qE e;exact⟨e1,fun k o w h=>absurd h (hne k o w),fun _ _ _ _ _ _ _=>z⟩
def qNS (n:Nat):SV->SV
 | .ref k off w=>.ref k (off+n) w
 | .elt k g m w j off=>.elt k g m w j (off+n)
 | .lp t xs j off=>.lp t xs j (off+n)
 | v=>v
def zE8:SV->Bool
 | .ref _ _ _=>true
 | .elt _ _ _ _ _ _=>true
 | .lp _ _ _ _=>true
 | _=>false
omit [Yl] in
theorem qVB {n:Nat}{v:SV}(hv:v.ok h):(qNS n v).ok h:=by
 cases v <;> simp only[qNS,SV.ok] at hv ⊢ <;> exact hv
def rF (P:Program)(t:TypeId)(x:SV)(i:Nat)(h:SH):Option SV:=match q99 P t i with
 | some (off,ft)=>(match szT P ft with
   | some (_+1)=>cond (qWF h x) (some (qNS off x)) none
   | _=>none)
 | none=>none
theorem qF7 {t:TypeId}{x v:SV}{i:Nat}(hx:x.ok h)(e:rF P t x i h=some v):zZ P t x.enc i (qC h.l)=some v.enc∧v.ok h:=by
 unfold rF at e;unfold zZ;split at e
 ·rename_i off ft hf;split at e
  ·rename_i s hs
   cases hl:qWF h x with
   | false=>rw[hl] at e;cases e
   | true =>
     rw[hl] at e;cases e;refine⟨?_,qVB hx⟩;simp only[hf,hs]
     cases x with
     | ref k o w=>simp only[SV.enc,qNS,qHR hl,cond_true]
     | elt k g n w j o=>simp only[SV.enc,qNS,qHI hx hl,cond_true,zRH]
     | lp t xs j o=>simp only[SV.enc,qNS,zRH]
     | _=>cases hl
  ·cases e
 ·cases e
def zDG (n:Nat)(ix:SV)(K:Nat->zF6 R):zF6 R:=match ix with
 | .c (.int _ i)=>(match idx n i with
   | some j=>K j
   | none=>.fail)
 | v=>(match asI v with
   | some (_,i)=>.bind (idx n i) K
   | none=>.fail)
theorem q9C {n:Nat}{ix:SV}{K:Nat->zF6 R}(e:(zDG n ix K).run=some r):∃ k i j,ix.enc=fvv (.int k i)∧idx n i=some j∧(K j).run=some r:=by
 unfold zDG at e;split at e
 ·rename_i k i;split at e
  ·rename_i j hj;exact⟨k,i,j,by simp[SV.enc],hj,e⟩
  ·cases e
 ·split at e
  ·rename_i k i hi;obtain⟨j,hj,e⟩:=run_bind e;exact⟨k,i,j,yD hi,hj,e⟩
  ·cases e
def q8M (n:Nat)(ix:SV)(K K2:Nat->zF6 R):zF6 R:=match ix with
 | .c (.int _ i)=>(match idx n i with
   | some j=>K j
   | none=>.fail)
 | v=>(match asI v with
   | some (_,i)=>.bind (idx n i) K2
   | none=>.fail)
theorem q1W {n:Nat}{ix:SV}{K K2:Nat->zF6 R}(e:(q8M n ix K K2).run=some r):∃ k i j,ix.enc=fvv (.int k i)∧idx n i=some j∧((K j).run=some r∨(K2 j).run=some r):=by
 unfold q8M at e;split at e
 ·rename_i k i;split at e
  ·rename_i j hj;exact⟨k,i,j,by simp[SV.enc],hj,.inl e⟩
  ·cases e
 ·split at e
  ·rename_i k i hi;obtain⟨j,hj,e⟩:=run_bind e;exact⟨k,i,j,yD hi,hj,.inr e⟩
  ·cases e
def q9V (n:Nat):SV->SV
 | .ref k off w=>.rfx k (off+n) w
 | .elt k g m w j off=>.etx k g m w j (off+n)
 | v=>qNS n v
omit [Yl] in
theorem q7W {n:Nat}{v:SV}(hv:v.ok h):(q9V n v).ok h:=by
 cases v <;> simp only[q9V,qNS,SV.ok] at hv ⊢ <;> exact hv
theorem q3K {n:Nat}{v:SV}(hv:zE8 v=true):(q9V n v).enc=(qNS n v).enc:=by
 cases v <;> first | rfl | (simp only[q9V,qNS,SV.enc])
def sP (P:Program)(t:TypeId)(x ix:SV)(h:SH)(K:SV->zF6 R):zF6 R:=match x with
 | .d (.list el u) xs=>(match asI ix,zS P t with
   | some (_,i),some el'=>(match szT P el' with
     | some s=>cond (Nat.beq s u.w) (.bind (idx (List.length xs) i) fun j=>K (.lp u xs j 0)) .fail
     | none=>.fail)
   | _,_=>.fail)
 | .own k g n=>(match asI ix,zS P t,slk k h.l with
   | some (_,i),some el',some (.list el _ g' _ u _)=>cond (Nat.beq el' el&&Nat.beq g g') (.bind (idx n i) fun j=>K (.elt k g n u.w j 0)) .fail
   | some (_,i),some el',some (.cells el _ cs)=>(match szT P el with
     | some s=>cond (Nat.beq el' el&&Nat.beq (n*s) cs.length) (.bind (idx n i) fun j=>K (.ref k (j*s) cs.length)) .fail
     | none=>.fail)
   | _,_,_=>.fail)
 | .sl k g n o m=>(match asI ix,zS P t,slk k h.l with
   | some (_,i),some el',some (.list el _ g' _ u _)=>cond (Nat.beq el' el&&Nat.beq g g') (.bind (idx m i) fun j=>K (.elt k g n u.w (o+j) 0)) .fail
   | _,_,_=>.fail)
 | x=>(match qPQ P t with
   | some (n,el)=>(match szT P el with
     | some s=>cond (zE8 x) (q8O h x (q8M n ix (fun j=>K (qNS (j*s) x)) fun j=>K (q9V (j*s) x))) .fail
     | none=>.fail)
   | none=>.fail)
theorem qHH {t:TypeId}{x ix:SV}{K:SV->zF6 R}(ho:OkH P h)(hx:x.ok h)(e:(sP P t x ix h K).run=some r):∃ v,zD P t x.enc ix.enc (qC h.l)=some v.enc∧v.ok h∧(K v).run=some r:=by
 unfold sP at e;split at e
 ·rename_i el u xs;split at e
  ·rename_i k i el' hi hel;split at e
   ·rename_i s hs;obtain⟨h1,e1⟩:=qE e;obtain⟨j,hj,e2⟩:=run_bind e1;have hw:s=u.w:=zPL h1;subst hw;refine⟨_,?_,by simp[SV.ok],e2⟩;rw[yD hi];simp only[SV.enc,Ty.fv,fvv,zD,hel,hs,hj,zR3]
   ·cases e
  ·cases e
 ·rename_i k g n;split at e
  ·rename_i ki i el' el gr g' w u xs hi hel hk;obtain⟨h1,e1⟩:=qE e;obtain⟨j,hj,e2⟩:=run_bind e1;rw[zPK] at h1;have hg:g=g':=zPL h1.2;subst hg;simp only[SV.ok] at hx;have hn:=hx.2 _ _ _ _ _ hk;have hl:=ho.list _ _ _ _ _ _ _ hk;refine⟨_,?_,by simp only[SV.ok];exact hx,e2⟩;rw[yD hi];simp only[SV.enc,fvv,zD,hel,zN hk]
   show (match szT P el with
    | some s=>(match idx n i with
      | some j=>cond (Nat.beq el' el&&Nat.beq (n*s) (SO.list el gr g w u xs).enc.cs.length) (some (PV.ref k (SO.list el gr g w u xs).enc.cs.length ((0+j)*s))) none
      | none=>none)
    | none=>none)=_
   rw[hl.2.1,hj];simp only[qV,hn,aI,h1.1,zQE,cond_true,zP4,zR3]
  ·rename_i ki i el' el w cs hi hel hk;split at e
   ·rename_i s hs;obtain⟨h1,e1⟩:=qE e;obtain⟨j,hj,e2⟩:=run_bind e1;refine⟨_,?_,by simp[SV.ok],e2⟩;rw[yD hi];simp only[SV.enc,fvv,zD,hel,zN hk]
    show (match szT P el with
     | some s=>(match idx n i with
       | some j=>cond (Nat.beq el' el&&Nat.beq (n*s) (qB cs).length) (some (PV.ref k (qB cs).length ((0+j)*s))) none
       | none=>none)
     | none=>none)=_
    rw[hs,hj];simp only[qQ,h1,cond_true,zP4]
   ·cases e
  ·cases e
 ·rename_i k g n o m;split at e
  ·rename_i ki i el' el gr g' w u xs hi hel hk;obtain⟨h1,e1⟩:=qE e;obtain⟨j,hj,e2⟩:=run_bind e1;rw[zPK] at h1;have hg:g=g':=zPL h1.2;subst hg;simp only[SV.ok] at hx;have hn:=hx.1.2 _ _ _ _ _ hk;have hl:=ho.list _ _ _ _ _ _ _ hk;refine⟨_,?_,by simp only[SV.ok];exact hx.1,e2⟩;rw[yD hi];simp only[SV.enc,fvv,zD,hel,zN hk]
   show (match szT P el with
    | some s=>(match idx m i with
      | some j=>cond (Nat.beq el' el&&Nat.beq (n*s) (SO.list el gr g w u xs).enc.cs.length) (some (PV.ref k (SO.list el gr g w u xs).enc.cs.length ((o+j)*s))) none
      | none=>none)
    | none=>none)=_
   rw[hl.2.1];simp only[hj,qV,hn,aI,h1.1,zQE,cond_true,zR3]
  ·cases e
 ·split at e
  ·rename_i n el ha;split at e
   ·rename_i s hs;obtain⟨h1,e⟩:=qE e;obtain⟨e,h2,h3⟩:=q1F e;obtain⟨ki,i,j,hi,hj,e⟩:=q1W e
    obtain⟨v,hv1,hv2,e⟩:∃ v:SV,v.enc=(qNS (j*s) x).enc∧v.ok h∧(K v).run=some r:=by
     rcases e with e | e
     ·exact⟨_,rfl,qVB hx,e⟩
     ·exact⟨_,q3K h1,q7W hx,e⟩
    refine⟨_,?_,hv2,e⟩;rw[hi,hv1]
    cases x with
    | ref k o w=>simp only[SV.enc,qNS,fvv,zD,ha,hs,hj,h2 _ _ _ rfl,cond_true]
    | elt k g n w j o=>simp only[SV.enc,qNS,fvv,zD,ha,hs,hj,qHI hx (h3 _ _ _ _ _ _ rfl),cond_true,zRH]
    | lp t xs j o=>simp only[SV.enc,qNS,fvv,zD,ha,hs,hj,zRH]
    | _=>cases h1
   ·cases e
  ·cases e
def qVO (P:Program)(t:TypeId)(x ix:SV)(K:SV->zF6 R):zF6 R:=match qPQ P t,x with
 | some (n,el),.agg l=>(match szT P el with
   | some s=>zDG n ix fun j=>match qF9 P el l (j*s) with
     | some v=>K v
     | none=>.fail
   | none=>.fail)
 | _,_=>.fail
theorem qXG {t:TypeId}{x ix:SV}{K:SV->zF6 R}(hx:x.ok h)(e:(qVO P t x ix K).run=some r):∃ v,qEZ P t x.enc ix.enc=some v.enc∧v.ok h∧(K v).run=some r∧∃ l,x=.agg l:=by
 unfold qVO at e;split at e
 ·rename_i n el l ha;split at e
  ·rename_i s hs;obtain⟨ki,i,j,hi,hj,e⟩:=q9C e;split at e
   ·rename_i v hv;obtain⟨h1,h2⟩:=qG2 (h:=h) hv;simp only[SV.ok] at hx;refine⟨v,?_,h2 hx,e,l,rfl⟩;rw[hi];simp only[qEZ,ha,SV.enc,fvv,hs,hj];exact h1
   ·cases e
  ·cases e
 ·cases e
def qGJ (v:SV)(i:Nat):Option SV:=match v with
 | .tup l=>(match zJ l i with
   | some x=>cond (pnt x.enc) (some x) none
   | none=>none)
 | _=>none
theorem qOG {x v:SV}{i:Nat}(hx:x.ok h)(e:qGJ x i=some v):dL x.enc i=some v.enc∧v.ok h:=by
 unfold qGJ at e;split at e
 ·rename_i l;split at e
  ·rename_i y hy
   cases hp:pnt y.enc with
   | false=>rw[hp] at e;cases e
   | true =>
     rw[hp] at e;cases e;simp only[SV.ok] at hx;refine⟨?_,nG hx hy⟩;simp only[dL,SV.enc,qX,hy,zPZ,hp,cond_true]
  ·cases e
 ·cases e
def qBY (fn:Fn)(first cap:List SV):Option SV:=match fn with
 | .func g=>some (match first,cap with
   | [],[]=>.c (.func (.func g) #[] #[])
   | _,_=>.fn g first cap)
 | _=>none
theorem qJX {fn:Fn}{first cap:List SV}{v:SV}(h1:okL h first)(h2:okL h cap)(e:qBY fn first cap=some v):vO fn (qB first) (qB cap)=some v.enc∧v.ok h:=by
 unfold qBY at e;split at e
 ·rename_i g;cases e
  cases first with
  | nil=>cases cap with
    | nil=>exact⟨by simp[vO,qB,SV.enc],by simp[SV.ok]⟩
    | cons x l=>exact⟨by simp[vO,qB,SV.enc],by simp only[SV.ok];exact⟨h1,h2⟩⟩
  | cons y l=>exact⟨by simp[vO,qB,SV.enc],by simp only[SV.ok];exact⟨h1,h2⟩⟩
 ·cases e
def qBD (v:SV)(h:SH):Option SV:=match v with
 | .fn _ _ _=>some v
 | .c (.func (.func _) _ _)=>some v
 | v=>cond (qWF h v) (some v) none
theorem qK3 {x v:SV}(hx:x.ok h)(e:qBD x h=some v):yR x.enc (qC h.l)=some v.enc∧v.ok h:=by
 unfold qBD at e;split at e
 ·cases e;exact⟨by simp[yR,SV.enc],hx⟩
 ·cases e;exact⟨by simp[yR,SV.enc,fvv],hx⟩
 ·cases hl:qWF h x with
  | false=>rw[hl] at e;cases e
  | true =>
    rw[hl] at e;cases e;refine⟨?_,hx⟩
    cases x with
    | ref k o w=>simp only[SV.enc,yR,qHR hl,cond_true]
    | elt k g n w j o=>simp only[SV.enc,yR,qHI hx hl,cond_true]
    | lp t xs j o=>simp only[SV.enc,yR]
    | _=>cases hl
end
end Go.Sv
namespace Go.Sv
open Go.Idl
variable {el:TypeId}{k:Nat}{t:Ty}{x:SV}
noncomputable section
variable [Gc]
variable [Yl]
variable {P:Program}{h:SH}{R:Type}{r:R}
def zDL (P:Program)(ts:Array TypeId)(x:SV)(h:SH):Option SV:=match ts[0]? with
 | some t=>(match zS P t with
   | some _=>(match x with
     | .d (.list _ _) xs=>some (.d (.int .i64) ((List.length xs:Nat):Int))
     | .c (.slice _ n _)=>some (.c (.int .i64 (n:Int)))
     | .own k g n=>(match slk k h.l with
       | some (.list _ _ g' _ _ _)=>cond (Nat.beq g g') (some (.d (.int .i64) (n:Int))) none
       | some (.cells el _ cs)=>(match szT P el with
         | some s=>cond (Nat.beq (n*s) cs.length) (some (.c (.int .i64 (n:Int)))) none
         | none=>none)
       | _=>none)
     | .sl k g _ _ m=>(match slk k h.l with
       | some (.list _ _ g' _ _ _)=>cond (Nat.beq g g') (some (.d (.int .i64) (m:Int))) none
       | _=>none)
     | _=>none)
   | none=>(match qPQ P t with
     | some (n,_)=>some (.c (.int .i64 (n:Int)))
     | none=>none))
 | none=>none
theorem q6N {ts:Array TypeId}{v:SV}(ho:OkH P h)(hx:x.ok h)(e:zDL P ts x h=some v):q31 P ts x.enc (qC h.l)=some v.enc∧v.ok h:=by
 unfold zDL at e;unfold q31;split at e
 ·rename_i t ht;split at e
  ·rename_i el hel;split at e
   ·rename_i el' u xs;cases e;simp[ht,hel,SV.enc,Ty.fv,fvv,SV.ok]
   ·rename_i a n c;cases e;simp[ht,hel,SV.enc,fvv,SV.ok]
   ·rename_i k g n;split at e
    ·rename_i el' gr g' w u xs hk
     obtain⟨h1,e1⟩:Nat.beq g g'=true∧some (SV.d (.int .i64) (n:Int))=some v:=by
      cases hb:Nat.beq g g' with
      | false=>rw[hb] at e;cases e
      | true=>rw[hb] at e;exact⟨rfl,e⟩
     cases e1;have hg:g=g':=zPL h1;subst hg;simp only[SV.ok] at hx;have hn:=hx.2 _ _ _ _ _ hk;have hl:=ho.list _ _ _ _ _ _ _ hk;refine⟨?_,by simp[SV.ok]⟩;simp only[ht,hel,SV.enc,zN hk]
     show (match szT P el' with
      | some s=>cond (Nat.beq (n*s) (SO.list el' gr g w u xs).enc.cs.length) (some (fvv (.int .i64 (n:Int)))) none
      | none=>none)=_
     rw[hl.2.1];simp only[qV,hn,aI,cond_true,Ty.fv,fvv]
    ·rename_i el' w cs hk;split at e
     ·rename_i s hs
      cases hb:Nat.beq (n*s) cs.length with
      | false=>rw[hb] at e;cases e
      | true =>
        rw[hb] at e;cases e;refine⟨?_,by simp[SV.ok]⟩;simp only[ht,hel,SV.enc,zN hk]
        show (match szT P el' with
         | some s=>cond (Nat.beq (n*s) (qB cs).length) (some (fvv (.int .i64 (n:Int)))) none
         | none=>none)=_
        rw[hs];simp only[qQ,hb,cond_true]
     ·cases e
    ·cases e
   ·rename_i k g n o m;split at e
    ·rename_i el' gr g' w u xs hk
     obtain⟨h1,e1⟩:Nat.beq g g'=true∧some (SV.d (.int .i64) (m:Int))=some v:=by
      cases hb:Nat.beq g g' with
      | false=>rw[hb] at e;cases e
      | true=>rw[hb] at e;exact⟨rfl,e⟩
     cases e1;have hg:g=g':=zPL h1;subst hg;simp only[SV.ok] at hx;have hn:=hx.1.2 _ _ _ _ _ hk;have hl:=ho.list _ _ _ _ _ _ _ hk;refine⟨?_,by simp[SV.ok]⟩;simp only[ht,hel,SV.enc,zN hk]
     show (match szT P el' with
      | some s=>cond (Nat.beq (n*s) (SO.list el' gr g w u xs).enc.cs.length) (some (fvv (.int .i64 (m:Int)))) none
      | none=>none)=_
     rw[hl.2.1];simp only[qV,hn,aI,cond_true,Ty.fv,fvv]
    ·cases e
   ·cases e
  ·rename_i hel;split at e
   ·rename_i n el ha;cases e;simp[ht,hel,ha,SV.enc,SV.ok]
   ·cases e
 ·cases e
def qDX (u t:Ty)(xs:List u.sem):Option (List t.sem):=if e:u=t then some (e ▸ xs) else none
omit [Yl] in
theorem uK {u:Ty}{xs:List u.sem}{ys:List t.sem}(e:qDX u t xs=some ys):(⟨u,xs⟩:(t:Ty)×List t.sem)=⟨t,ys⟩:=by
 unfold qDX at e;split at e
 ·rename_i h;subst h;cases e;rfl
 ·cases e
def qVE (t:Ty)(x:SV)(h:SH):Option (List t.sem):=match x with
 | .d (.list _ u) xs=>qDX u t xs
 | .c (.slice none 0 _)=>some []
 | .own k g _=>(match slk k h.l with
   | some (.list _ _ g' _ u xs)=>cond (Nat.beq g g') (qDX u t xs) none
   | _=>none)
 | .sl k g _ o m=>(match slk k h.l with
   | some (.list _ _ g' _ u xs)=>cond (Nat.beq g g') (match qDX u t xs with
     | some xs=>some ((xs.drop o).take m)
     | none=>none) none
   | _=>none)
 | _=>none
theorem qHA {ys:List t.sem}(ho:OkH P h)(hx:x.ok h)(e:qVE t x h=some ys):nI P t.w x.enc (qC h.l)=some (ys.length,(ys.flatMap t.cells).map .f):=by
 unfold qVE at e;unfold nI;split at e
 ·rename_i el u xs;cases uK e;simp only[SV.enc,Ty.fv,zW,aI,cond_true]
 ·cases e;simp[SV.enc,fvv]
 ·rename_i k g n;split at e
  ·rename_i el gr g' w u xs hk
   cases hb:Nat.beq g g' with
   | false=>rw[hb] at e;cases e
   | true =>
     rw[hb] at e;have hg:g=g':=zPL hb;subst hg;cases uK e;simp only[SV.ok] at hx;have hn:=hx.2 _ _ _ _ _ hk;have hl:=ho.list _ _ _ _ _ _ _ hk;simp only[SV.enc,zN hk]
     show (match szT P el with
      | some s'=>cond (Nat.beq (n*s') (SO.list el gr g w t ys).enc.cs.length&&Nat.beq t.w s') (some (n,(((ys.flatMap t.cells).map PV.f).drop (0*t.w)).take (n*t.w))) none
      | none=>none)=_
     rw[hl.2.1];simp only[qV,hn,aI,zQE,cond_true,zTB,zQ4];rw[zQD (by rw[zPR,zW];exact zPM _)]
  ·cases e
 ·rename_i k g n o m;split at e
  ·rename_i el gr g' w u xs hk
   cases hb:Nat.beq g g' with
   | false=>rw[hb] at e;cases e
   | true =>
     rw[hb] at e;have hg:g=g':=zPL hb;subst hg;simp only[cond_true] at e;split at e
     case h_2=>cases e
     rename_i xs2 zNX;cases e;cases uK zNX;simp only[SV.ok] at hx;have hn:=hx.1.2 _ _ _ _ _ hk;have hl:=ho.list _ _ _ _ _ _ _ hk;simp only[SV.enc,zN hk]
     show (match szT P el with
      | some s'=>cond (Nat.beq (n*s') (SO.list el gr g w t xs2).enc.cs.length&&Nat.beq t.w s') (some (m,(((xs2.flatMap t.cells).map PV.f).drop (o*t.w)).take (m*t.w))) none
      | none=>none)=_
     rw[hl.2.1];simp only[qV,hn,aI,zQE,cond_true];rw[<-zRV,<-zRQ,gV,gP]
     congr 1
     have:=hx.2;rw[zQV,zR9,zRA (by omega)]
  ·cases e
 ·cases e
omit [Yl] in
theorem qA9 (ys:List t.sem):((ys.flatMap t.cells).map PV.f).all aK=true:=by
 rw[zPN];intro x hx;obtain⟨y,_,rfl⟩:=zQB.1 hx;rfl
omit [Yl] in
theorem qG8 {h0:SH}{gr:Bool}{n m:Nat}{ty:Ty}{xs ys:List ty.sem}(hn:n=xs.length)(hm:m=ys.length):(SV.own k h0.next (n+m)).ok (h0.new k fun v=>.list el gr v v ty (xs++ys)) :=
 w9 (by rw[zP9,hn,hm])
def qGR (P:Program)(ts:List TypeId)(base x:SV)(k:Nat)(h:SH)(K:SV->SH->zF6 R):zF6 R:=match ts with
 | [st,xt]=>(match zS P st,zS P xt with
   | some el,some _=>(match szT P el,qDK P 8 el with
     | some (s+1),some t=>cond (Nat.beq t.w (s+1)&&kZ P el) (match qVE t x h with
       | some ys=>(match base with
         | .c (.slice none 0 0)=>.ite (Nat.beq ys.length 0) (K base h)
            (.ite (Nat.ble (0+ys.length) 1048576) (K (.own k h.next (0+ys.length)) (h.new k fun v=>.list el true v v t ([]++ys))) .fail)
         | .own j g n=>(match slk j h.l with
           | some (.list el' gr g' _ u xs)=>cond (Nat.beq el' el&&Nat.beq g g') (match qDX u t xs with
             | some xs=>.ite (Nat.beq ys.length 0) (K base h)
                (.ite (Nat.ble (n+ys.length) 1048576) (cond gr (K (.own j h.next (n+ys.length)) ((h.del j).new j fun v=>.list el true v v t (xs++ys))) (K (.own k h.next (n+ys.length)) (h.new k fun v=>.list el true v v t (xs++ys)))) .fail)
             | none=>.fail) .fail
           | _=>.fail)
         | _=>.fail)
       | none=>.fail) .fail
     | _,_=>.fail)
   | _,_=>.fail)
 | _=>.fail
omit [Yl] in
theorem qIH {xs ys:List t.sem}{ph:PHp}(h1:Nat.ble (xs.length+ys.length) 1048576=true)(h2:kZ P el=true) :
 nT P el t.w ((xs.flatMap t.cells).map .f) xs.length ((ys.flatMap t.cells).map .f) ys.length k ph=some (.own k (xs.length+ys.length) 0 (xs.length+ys.length),(k,⟨el,true,((xs++ys).flatMap t.cells).map .f⟩)::ph):=by
 unfold nT;rw[h1,h2,zPR,zW,zPR,zW,qA9];simp only[aI,zQE,cond_true,qEA];rw[zSQ,zQX]
theorem qE0 {ts:List TypeId}{base:SV}{K:SV->SH->zF6 R}(ho:OkH P h)(hb:base.ok h)(hx:x.ok h)(e:(qGR P ts base x k h K).run=some r) :
 ∃ v h',zV P ts base.enc x.enc k (qC h.l)=some (v.enc,qC h'.l)∧Post P h h' v∧(K v h').run=some r:=by
 unfold qGR at e;split at e
 ·rename_i st xt;split at e
  ·rename_i el el2 hel zH7;split at e
   ·rename_i s t hs hty;have e_:=qE e;clear e;obtain⟨c1,e⟩:=e_;rw[zPK] at c1;have hw:s+1=t.w:=(zPL c1.1).symm;split at e
    ·rename_i ys hys;have hnw:=qHA ho hx hys;split at e
     ·have e_:=run_ite e;clear e
      rcases e_ with ⟨z,e⟩ | ⟨z,e⟩
      ·refine⟨_,_,?_,⟨.refl _,ho,hb⟩,e⟩;simp only[zV,hel,zH7,hs,SV.enc,fvv];rw[hw,hnw];simp only[z,cond_true]
      ·have e_:=run_ite e;clear e
       rcases e_ with ⟨z2,e⟩ | ⟨z2,e⟩
       ·have hn:=xL (k:=k) (f:=fun v=>.list el true v v t ([]++ys)) ho ⟨rfl,rfl,by rw[hs];exact congrArg some hw,by omega⟩;refine⟨_,_,?_,⟨hn.1,hn.2,qG8 (xs:=[]) rfl rfl⟩,e⟩;simp only[zV,hel,zH7,hs,SV.enc,fvv];rw[hw,hnw];simp only[z,cond_false];exact qIH (xs:=[]) z2 c1.2
       ·cases e
     ·rename_i j g n;split at e
      ·rename_i el' gr g' w u xs0 hk;have e_:=qE e;clear e;obtain⟨c2,e⟩:=e_;rw[zPK] at c2;have he:el'=el:=zPL c2.1;have hg:g=g':=zPL c2.2;split at e
       ·rename_i xs hxs;have hcast:=uK hxs
        have hk2:slk j h.l=some (.list el gr g w t xs):=by
         rw[hk,he,<-hg];cases hcast;rfl
        have hnl:n=xs.length:=by
         simp only[SV.ok] at hb;exact hb.2 _ _ _ _ _ hk2
        have pre:∀ z:PV×PHp,(cond (Nat.beq ys.length 0) (some (PV.own j n 0 n,qC h.l))
         (cond (Nat.ble (n+ys.length) n) (cond (Nat.beq ((ys.flatMap t.cells).map PV.f).length (ys.length*(s+1))&&((ys.flatMap t.cells).map PV.f).all aK) (some (PV.own j n 0 (n+ys.length),xR j { (SO.list el gr g w t xs).enc with cs:=yH (SO.list el gr g w t xs).enc.cs (n*(s+1)) ((ys.flatMap t.cells).map PV.f) } (qC h.l))) none)
           (cond gr (nT P el (s+1) (SO.list el gr g w t xs).enc.cs n ((ys.flatMap t.cells).map PV.f) ys.length j (p8 j (qC h.l))) (nT P el (s+1) (SO.list el gr g w t xs).enc.cs n ((ys.flatMap t.cells).map PV.f) ys.length k (qC h.l)))))=some z ->
         zV P [st,xt] (SV.own j g n).enc x.enc k (qC h.l)=some z:=fun z hz=>by
         simp only[zV,hel,zH7,hs,SV.enc];rw[show nI P (s+1) x.enc (qC h.l)=_ from (hw ▸ hnw)];simp only[zN hk2];rw[show (SO.list el gr g w t xs).enc.el=el from rfl,show Nat.beq (n*(s+1)) (SO.list el gr g w t xs).enc.cs.length=true by rw[qV,hw,hnl];exact aI _];simp only[aI,zQE,cond_true];exact hz
        have e_:=run_ite e;clear e
        rcases e_ with ⟨z,e⟩ | ⟨z,e⟩
        ·refine⟨_,_,pre _ ?_,⟨.refl _,ho,hb⟩,e⟩;rw[z];simp[SV.enc]
        ·have e_:=run_ite e;clear e
         rcases e_ with ⟨z2,e⟩ | ⟨z2,e⟩
         ·have hpos:Nat.ble (n+ys.length) n=false:=by
           cases hq:Nat.ble (n+ys.length) n with
           | false=>rfl
           | true =>
             have h0:=zPU hq;have:ys.length=0:=by omega
             rw[this] at z;cases z
          cases hgr:gr with
          | true =>
            rw[hgr] at e;have hd:=fO (k:=j) ho;have hn:=xL (h:=h.del j) (k:=j) (f:=fun v=>.list el true v v t (xs++ys)) hd.2 ⟨rfl,rfl,by rw[hs];exact congrArg some hw,by omega⟩;refine⟨_,_,pre _ ?_,⟨hd.1.trans hn.1,hn.2,qG8 (h0:=h.del j) hnl rfl⟩,e⟩;rw[z,hpos,hgr];simp only[cond_true,cond_false];rw[hw,hnl];rw[hnl] at z2;rw[show (SO.list el true g w t xs).enc.cs=(xs.flatMap t.cells).map .f from rfl,qIH z2 c1.2,<-fA];rfl
          | false =>
            rw[hgr] at e;have hn:=xL (h:=h) (k:=k) (f:=fun v=>.list el true v v t (xs++ys)) ho ⟨rfl,rfl,by rw[hs];exact congrArg some hw,by omega⟩;refine⟨_,_,pre _ ?_,⟨hn.1,hn.2,qG8 (h0:=h) hnl rfl⟩,e⟩;rw[z,hpos,hgr];simp only[cond_false];rw[hw,hnl];rw[hnl] at z2;rw[show (SO.list el false g w t xs).enc.cs=(xs.flatMap t.cells).map .f from rfl,qIH z2 c1.2];rfl
         ·cases e
       ·cases e
      ·cases e
     ·cases e
    ·cases e
   ·cases e
  ·cases e
 ·cases e
end
end Go.Sv
namespace Go.Sv
open Go.Idl
variable {base x:SV}{c o:Nat}{ts:List TypeId}
noncomputable section
variable [Gc]
variable [Yl]
variable {P:Program}{h:SH}{R:Type}{r:R}
def tN {α:Type}(xs ys:List α)(o c:Nat):List α:=xs.take o++(ys.take c++xs.drop (o+c))
omit [Yl] in
theorem qRX {α:Type}{xs ys:List α}(h1:o+c<=xs.length)(h2:c<=ys.length):xs.length=(tN xs ys o c).length:=by
 simp[tN];omega
omit [Yl] in
theorem qJJ {t:Ty}{xs ys:List t.sem}(h2:c<=ys.length) :
 yH ((xs.flatMap t.cells).map PV.f) (o*t.w) (((ys.flatMap t.cells).map PV.f).take (c*t.w))=((tN xs ys o c).flatMap t.cells).map PV.f:=by
 have hl:(((ys.flatMap t.cells).map PV.f).take (c*t.w)).length=c*t.w:=by
  rw[zQV,zPR,zW];exact zRA (zQP _ h2)
 unfold yH;rw[hl,<-zR2,<-zRQ,<-zRQ,<-zRV,gP,gP,gV];unfold tN;simp[zSQ,zQK]
def q55 (P:Program)(ts:List TypeId)(base x:SV)(h:SH)(K:SV->SH->zF6 R):zF6 R:=match ts with
 | [st,xt]=>(match zS P st,zS P xt with
   | some el,some _=>(match szT P el,qDK P 8 el with
     | some (s+1),some t=>cond (Nat.beq t.w (s+1)) (match qVE t x h with
       | some ys=>(match base with
         | .own j g n=>(match slk j h.l with
           | some (.list el' gr g' _ u xs)=>cond (Nat.beq el' el&&Nat.beq g g') (match qDX u t xs with
             | some xs=>K (.d (.int .i64) ((Nat.min ys.length n:Nat):Int)) (h.put j fun v=>.list el gr g v t (tN xs ys 0 (Nat.min ys.length n)))
             | none=>.fail) .fail
           | _=>.fail)
         | .sl j g n o m=>(match slk j h.l with
           | some (.list el' gr g' _ u xs)=>cond (Nat.beq el' el&&Nat.beq g g') (match qDX u t xs with
             | some xs=>K (.d (.int .i64) ((Nat.min ys.length m:Nat):Int)) (h.put j fun v=>.list el gr g v t (tN xs ys o (Nat.min ys.length m)))
             | none=>.fail) .fail
           | _=>.fail)
         | .d (.list _ _) xs=>.ite (Nat.beq (List.length xs) 0) (K (.d (.int .i64) 0) h) .fail
         | .c (.slice none 0 _)=>K (.d (.int .i64) 0) h
         | _=>.fail)
       | none=>.fail) .fail
     | _,_=>.fail)
   | _,_=>.fail)
 | _=>.fail
theorem q1M {K:SV->SH->zF6 R}(ho:OkH P h)(hb:base.ok h)(hx:x.ok h)(e:(q55 P ts base x h K).run=some r) :
 ∃ v h',qHE P ts base.enc x.enc (qC h.l)=some (v.enc,qC h'.l)∧Post P h h' v∧(K v h').run=some r:=by
 unfold q55 at e;split at e
 ·rename_i st xt;split at e
  ·rename_i el el2 hel zH7;split at e
   ·rename_i s t hs hty;have e_:=qE e;clear e;obtain⟨c1,e⟩:=e_;have hw:s+1=t.w:=(zPL c1).symm;split at e
    ·rename_i ys hys;have hnw:nI P (s+1) x.enc (qC h.l)=some (ys.length,(ys.flatMap t.cells).map .f):=hw ▸ qHA ho hx hys;have hlen:((ys.flatMap t.cells).map PV.f).length=ys.length*(s+1):=by rw[zPR,zW,hw]
     have key:∀ {j g n o m w:Nat} {gr:Bool} {xs:List t.sem},slk j h.l=some (.list el gr g w t xs)->n=xs.length->o+m<=n ->
      (K (.d (.int .i64) ((Nat.min ys.length m:Nat):Int)) (h.put j fun v=>.list el gr g v t (tN xs ys o (Nat.min ys.length m)))).run=some r ->
      ∃ v h',qHE P [st,xt] (.own j n o m) x.enc (qC h.l)=some (v.enc,qC h'.l)∧Post P h h' v∧(K v h').run=some r:=by
      intro j g n o m w gr xs hk hn hom e;have hc:Nat.min ys.length m<=ys.length:=Nat.min_le_left _ _;have hc2:Nat.min ys.length m<=m:=Nat.min_le_right _ _;have hp:=vY (f:=fun v=>.list el gr g v t (tN xs ys o (Nat.min ys.length m))) ho hk ⟨_,rfl,qRX (by omega) hc⟩;refine⟨_,_,?_,⟨hp.1,hp.2,by simp[SV.ok]⟩,e⟩;simp only[qHE,hel,zH7,hs,hnw,zN hk];rw[show (SO.list el gr g w t xs).enc.el=el from rfl,show Nat.beq (n*(s+1)) (SO.list el gr g w t xs).enc.cs.length=true by rw[qV,hw,hn];exact aI _,hlen,qA9];simp only[aI,zQE,cond_true];rw[show qC (h.put j fun v=>.list el gr g v t (tN xs ys o (Nat.min ys.length m))).l=xR j (SO.list el gr g h.next t (tN xs ys o (Nat.min ys.length m))).enc (qC h.l) from xX j _ _];rw[hw];show some (_,xR j ⟨el,gr,yH ((xs.flatMap t.cells).map PV.f) (o*t.w) _⟩ (qC h.l))=some (_,xR j ⟨el,gr,((tN xs ys o (Nat.min ys.length m)).flatMap t.cells).map PV.f⟩ (qC h.l));rw[qJJ hc];simp[SV.enc,Ty.fv,fvv]
     split at e
     ·rename_i j g n;split at e
      ·rename_i el' gr g' w u xs0 hk;have e_:=qE e;clear e;obtain⟨c2,e⟩:=e_;rw[zPK] at c2;have he:el'=el:=zPL c2.1;have hg:g=g':=zPL c2.2;split at e
       ·rename_i xs hxs;have hcast:=uK hxs
        have hk2:slk j h.l=some (.list el gr g w t xs):=by
         rw[hk,he,<-hg];cases hcast;rfl
        simp only[SV.ok] at hb;exact key hk2 (hb.2 _ _ _ _ _ hk2) (by omega) e
       ·cases e
      ·cases e
     ·rename_i j g n o m;split at e
      ·rename_i el' gr g' w u xs0 hk;have e_:=qE e;clear e;obtain⟨c2,e⟩:=e_;rw[zPK] at c2;have he:el'=el:=zPL c2.1;have hg:g=g':=zPL c2.2;split at e
       ·rename_i xs hxs;have hcast:=uK hxs
        have hk2:slk j h.l=some (.list el gr g w t xs):=by
         rw[hk,he,<-hg];cases hcast;rfl
        simp only[SV.ok] at hb;exact key hk2 (hb.1.2 _ _ _ _ _ hk2) hb.2 e
       ·cases e
      ·cases e
     ·rename_i el' u xs
      rcases run_ite e with ⟨z,e⟩ | ⟨z,e⟩
      ·refine⟨_,_,?_,⟨.refl _,ho,by simp[SV.ok]⟩,e⟩;have hz:xs=[]:=zQS.1 (zPL z);subst hz;simp[qHE,hel,zH7,hs,hnw,SV.enc,Ty.fv,fvv]
      ·cases e
     ·refine⟨_,_,?_,⟨.refl _,ho,by simp[SV.ok]⟩,e⟩;simp[qHE,hel,zH7,hs,hnw,SV.enc,Ty.fv,fvv]
     ·cases e
    ·cases e
   ·cases e
  ·cases e
 ·cases e
def q7H (P:Program)(ts:List TypeId)(base x:SV)(k:Nat)(h:SH)(K:SV->SH->zF6 R):zF6 R:=match base with
 | .sl j g n o m=>(match ts with
   | [st,xt]=>(match zS P st,zS P xt with
     | some el,some _=>(match szT P el,qDK P 8 el with
       | some (s+1),some t=>cond (Nat.beq t.w (s+1)&&Nat.beq o 0) (match qVE t x h with
         | some ys=>(match slk j h.l with
           | some (.list el' gr g' _ u xs)=>cond (Nat.beq el' el&&Nat.beq g g') (match qDX u t xs with
             | some xs=>.ite (Nat.beq ys.length 0) (K base h)
                (.ite (Nat.ble (m+ys.length) n) (K (.sl j g n 0 (m+ys.length)) (h.put j fun v=>.list el gr g v t (tN xs ys m ys.length)))
                  (.ite (Nat.beq m n) (qGR P ts (.own j g n) x k h K) .fail))
             | none=>.fail) .fail
           | _=>.fail)
         | none=>.fail) .fail
       | _,_=>.fail)
     | _,_=>.fail)
   | _=>.fail)
 | base=>qGR P ts base x k h K
theorem q3B {k:Nat}{K:SV->SH->zF6 R}(ho:OkH P h)(hb:base.ok h)(hx:x.ok h)(e:(q7H P ts base x k h K).run=some r) :
 ∃ v h',zV P ts base.enc x.enc k (qC h.l)=some (v.enc,qC h'.l)∧Post P h h' v∧(K v h').run=some r:=by
 unfold q7H at e;split at e
 case h_2=>exact qE0 ho hb hx e
 rename_i j g n o m;split at e
 case h_2=>cases e
 rename_i st xt;split at e
 case h_2=>cases e
 rename_i el el2 hel zH7;split at e
 case h_2=>cases e
 rename_i s t hs hty;obtain⟨c1,e1⟩:=qE e;rw[zPK] at c1;have hw:s+1=t.w:=(zPL c1.1).symm;have h0:o=0:=zPL c1.2;subst h0;split at e1
 case h_2=>cases e1
 rename_i ys hys;have hnw:nI P (s+1) x.enc (qC h.l)=some (ys.length,(ys.flatMap t.cells).map .f):=hw ▸ qHA ho hx hys;split at e1
 case h_2=>cases e1
 rename_i el' gr g' w u xs0 hk;obtain⟨c2,e2⟩:=qE e1;rw[zPK] at c2;have he:el'=el:=zPL c2.1;have hg:g=g':=zPL c2.2;split at e2
 case h_2=>cases e2
 rename_i xs hxs;have hcast:=uK hxs
 have hk2:slk j h.l=some (.list el gr g w t xs):=by
  rw[hk,he,<-hg];cases hcast;rfl
 simp only[SV.ok] at hb;have hnl:n=xs.length:=hb.1.2 _ _ _ _ _ hk2;have hlen:((ys.flatMap t.cells).map PV.f).length=ys.length*(s+1):=by rw[zPR,zW,hw]
 rcases run_ite e2 with ⟨z,e3⟩ | ⟨z,e3⟩
 ·refine⟨_,_,?_,⟨.refl _,ho,by simp only[SV.ok];exact hb⟩,e3⟩;simp only[zV,hel,zH7,hs,SV.enc,hnw,zN hk2];rw[show (SO.list el gr g w t xs).enc.el=el from rfl,show Nat.beq (n*(s+1)) (SO.list el gr g w t xs).enc.cs.length=true by rw[qV,hw,hnl];exact aI _];simp only[aI,zQE,cond_true,z]
 ·rcases run_ite e3 with ⟨z2,e4⟩ | ⟨z2,e4⟩
  ·have hle:=zPU z2;have hp:=vY (f:=fun v=>.list el gr g v t (tN xs ys m ys.length)) ho hk2 ⟨_,rfl,qRX (by omega) (zPM _)⟩;refine⟨_,_,?_,⟨hp.1,hp.2,?_⟩,e4⟩
   ·simp only[zV,hel,zH7,hs,SV.enc,hnw,zN hk2];rw[show (SO.list el gr g w t xs).enc.el=el from rfl,show Nat.beq (n*(s+1)) (SO.list el gr g w t xs).enc.cs.length=true by rw[qV,hw,hnl];exact aI _,hlen,qA9];simp only[aI,zQE,cond_true,z,z2,cond_false];rw[show qC (h.put j fun v=>.list el gr g v t (tN xs ys m ys.length)).l=xR j (SO.list el gr g h.next t (tN xs ys m ys.length)).enc (qC h.l) from xX j _ _];rw[hw];show some (_,xR j ⟨el,gr,yH ((xs.flatMap t.cells).map PV.f) (m*t.w) _⟩ (qC h.l))=some (_,xR j ⟨el,gr,((tN xs ys m ys.length).flatMap t.cells).map PV.f⟩ (qC h.l));rw[<-qJJ (zPM _),zQD (by rw[zPR,zW];exact zPM _)]
   ·simp only[SV.ok];exact⟨hb.1.keep hp.1,by omega⟩
  ·rcases run_ite e4 with ⟨z3,e5⟩ | ⟨_,e5⟩
   ·have hmn:m=n:=zPL z3;subst hmn;have:=qE0 (base:=.own j g m) ho (by simp only[SV.ok];exact hb.1) hx e5;simpa only[SV.enc] using this
   ·cases e5
def q3S (most:Nat)(i:Int):Option Nat:=if 0<=i∧i<=(most:Int) then some i.toNat else none
def qPX (d most:Nat)(x:Option SV)(K:Nat->zF6 R):zF6 R:=match x with
 | none=>K d
 | some v=>(match asI v with
   | some (_,i)=>.bind (q3S most i) K
   | none=>.fail)
theorem vS {d most:Nat}{x:Option SV}{K:Nat->zF6 R}(e:(qPX d most x K).run=some r):∃ n,bnd d most (x.map SV.enc)=some n∧(n=d∨n<=most)∧(K n).run=some r:=by
 unfold qPX at e;split at e
 ·exact⟨d,rfl,.inl rfl,e⟩
 ·rename_i v;split at e
  ·rename_i k i hi;have e_:=run_bind e;clear e;obtain⟨n,hn,e⟩:=e_;refine⟨n,?_,.inr ?_,e⟩
   ·simp only[zPZ,yD hi,fvv,bnd];exact hn
   ·unfold q3S at hn;split at hn
    ·cases hn;omega
    ·cases hn
  ·cases e
def qZC (P:Program)(t:TypeId)(x:SV)(lo hi:Option SV)(h:SH)(K:SV->zF6 R):zF6 R:=match x with
 | .d (.list el u) xs=>(match zS P t,szT P el with
   | some el',some s=>cond (Nat.beq el' el&&Nat.beq s u.w) (qPX (List.length xs) (List.length xs) hi fun b=>qPX 0 b lo fun a=>K (.d (.list el u) ((List.drop a xs).take (b - a)))) .fail
   | _,_=>.fail)
 | .c (.slice none 0 0)=>(match zS P t with
   | some el=>cond (szT P el).isSome (qPX 0 0 hi fun _=>qPX 0 0 lo fun _=>K x) .fail
   | none=>.fail)
 | .own k g n=>(match zS P t,slk k h.l with
   | some el',some (.list el _ g' _ u _)=>cond (Nat.beq el' el&&Nat.beq g g') (qPX n n hi fun b=>qPX 0 b lo fun a =>
      .ite (Nat.beq a 0) (K (.sl k g n 0 b)) (.ite (Nat.beq a b) (K (.d (.list el u) [])) (K (.sl k g n a (b - a))))) .fail
   | _,_=>.fail)
 | .sl k g n o m=>(match zS P t,slk k h.l with
   | some el',some (.list el _ g' _ u _)=>cond (Nat.beq el' el&&Nat.beq g g') (qPX m m hi fun b=>qPX 0 b lo fun a =>
      .ite (Nat.beq a 0) (K (.sl k g n o b)) (.ite (Nat.beq a b) (K (.d (.list el u) [])) (K (.sl k g n (o+a) (b - a))))) .fail
   | _,_=>.fail)
 | .ref k 0 w=>(match qPQ P t,slk k h.l with
   | some (m,el2),some (.spc v (.arr el _ xs))=>(match szT P el2 with
     | some 1=>cond (!Nat.beq el2 el&&Nat.beq m w) (.ite (Nat.beq w (List.length xs)) (qPX m m hi fun b=>qPX 0 b lo fun a=>.ite (Nat.beq a 0&&Nat.beq b m) (K (.asl el2 k v m)) .fail) .fail) .fail
     | _=>.fail)
   | _,_=>.fail)
 | _=>.fail
theorem qVP {t:TypeId}{lo hi:Option SV}{K:SV->zF6 R}(ho:OkH P h)(hx:x.ok h)(e:(qZC P t x lo hi h K).run=some r) :
 ∃ v,wX P t x.enc (lo.map SV.enc) (hi.map SV.enc) (qC h.l)=some v.enc∧v.ok h∧(K v).run=some r:=by
 unfold qZC at e
 have key:∀ {k g n o m w:Nat} {gr:Bool} {el el':TypeId} {u:Ty} {xs:List u.sem},slk k h.l=some (.list el gr g w u xs)->n=xs.length->o+m<=n->g < h.next->zS P t=some el'->Nat.beq el' el=true ->
  ∀ a b,bnd m m (hi.map SV.enc)=some b->b<=m->bnd 0 b (lo.map SV.enc)=some a->a<=b ->
  (zF6.ite (Nat.beq a 0) (K (.sl k g n o b)) (.ite (Nat.beq a b) (K (.d (.list el u) [])) (K (.sl k g n (o+a) (b - a))))).run=some r ->
  ∃ v,wX P t (.own k n o m) (lo.map SV.enc) (hi.map SV.enc) (qC h.l)=some v.enc∧v.ok h∧(K v).run=some r:=by
  intro k g n o m w gr el el' u xs hk hn hom hg hel hbe a b hb hbm ha hab e;have hl:=ho.list _ _ _ _ _ _ _ hk
  have pre:wX P t (.own k n o m) (lo.map SV.enc) (hi.map SV.enc) (qC h.l)=some (cond (Nat.beq a 0) (.own k n o b) (cond (Nat.beq a b) (.f (.l el 0 [])) (.own k n (o+a) (b - a)))):=by
   simp only[wX,zN hk,hel];rw[show (SO.list el gr g w u xs).enc.el=el from rfl,hl.2.1,hb];simp only[ha,qV,hn,aI,hbe,zQE,cond_true]
  have hsl:qZH h k g n:=⟨hg,fun el2 gr2 w2 t2 xs2 hk2=>by
   rw[hk] at hk2;cases hk2
   exact hn⟩
  rw[pre]
  rcases run_ite e with ⟨z,e⟩ | ⟨z,e⟩
  ·exact⟨_,by rw[z];simp[SV.enc],by simp only[SV.ok];exact⟨hsl,by omega⟩,e⟩
  ·rcases run_ite e with ⟨z2,e⟩ | ⟨z2,e⟩
   ·exact⟨_,by rw[z,z2];simp[SV.enc,Ty.fv],by simp[SV.ok],e⟩
   ·exact⟨_,by rw[z,z2];simp[SV.enc],by simp only[SV.ok];exact⟨hsl,by omega⟩,e⟩
 split at e
 ·rename_i el u xs;split at e
  ·rename_i el' s hel hs;have e_:=qE e;clear e;obtain⟨c1,e⟩:=e_;rw[zPK] at c1;have hw:s=u.w:=zPL c1.2;have he:el'=el:=zPL c1.1;subst hw he;obtain⟨b,hb,hb2,e1⟩:=vS e;obtain⟨a,ha,ha2,e2⟩:=vS e1;have hbl:b<=xs.length:=by rcases hb2 with q | q <;> omega
   have hab:a<=b:=by rcases ha2 with q | q <;> omega
   refine⟨_,?_,by simp[SV.ok],e2⟩;simp only[SV.enc,Ty.fv,wX,hel,hs,hb,ha,aI,zW,zQE,cond_true];rw[gV,gP]
   cases hq:Nat.beq a b with
   | true =>
     have:a=b:=zPL hq;subst this;simp
   | false =>
     simp only[cond_false,zQV,zR9];rw[zRA (by omega)]
  ·cases e
 ·split at e
  ·rename_i el hel;have e_:=qE e;clear e;obtain⟨c1,e⟩:=e_;obtain⟨b,hb,hb2,e1⟩:=vS e;obtain⟨a,ha,ha2,e2⟩:=vS e1;refine⟨_,?_,by simp[SV.ok],e2⟩;have hb':bnd 0 0 (hi.map SV.enc)=some b:=hb;simp only[SV.enc,fvv,wX,hel,hb',ha,c1,cond_true]
  ·cases e
 ·rename_i k g n;split at e
  ·rename_i el' el gr g' w u xs hel hk;have e_:=qE e;clear e;obtain⟨c1,e⟩:=e_;rw[zPK] at c1;have hg:g=g':=zPL c1.2;subst hg;obtain⟨b,hb,hb2,e1⟩:=vS e;obtain⟨a,ha,ha2,e2⟩:=vS e1;simp only[SV.ok] at hx;refine key hk (hx.2 _ _ _ _ _ hk) (by omega) hx.1 hel c1.1 a b hb (by rcases hb2 with q | q <;> omega) ha (by rcases ha2 with q | q <;> omega) ?_;rw[zP4];exact e2
  ·cases e
 ·rename_i k g n o m;split at e
  ·rename_i el' el gr g' w u xs hel hk;have e_:=qE e;clear e;obtain⟨c1,e⟩:=e_;rw[zPK] at c1;have hg:g=g':=zPL c1.2;subst hg;obtain⟨b,hb,hb2,e1⟩:=vS e;obtain⟨a,ha,ha2,e2⟩:=vS e1;simp only[SV.ok] at hx;exact key hk (hx.1.2 _ _ _ _ _ hk) hx.2 hx.1.1 hel c1.1 a b hb (by rcases hb2 with q | q <;> omega) ha (by rcases ha2 with q | q <;> omega) e2
  ·cases e
 ·rename_i k w;split at e
  ·rename_i m el2 v el ik xs ha hk;split at e
   ·rename_i hs;obtain⟨c1,e0⟩:=qE e;rw[zPK,zQH] at c1;have hmw:=zPL c1.2;subst hmw
    rcases run_ite e0 with ⟨z,e1⟩ | ⟨_,e1⟩
    ·obtain⟨b,hb,_,e2⟩:=vS e1;obtain⟨a,hal,_,e3⟩:=vS e2
     rcases run_ite e3 with ⟨z2,e4⟩ | ⟨_,e4⟩
     ·rw[zPK] at z2;have h0:=zPL z2.1;have h1:=zPL z2.2;subst h0 h1;refine⟨_,?_,?_,e4⟩
      ·simp only[SV.enc,wX,zN hk,ha,hs,hb,hal];show cond (Nat.beq el2 el&&_) _ (cond (Nat.beq b (xs.map fun x=>fvv (.int ik x)).length&&(Nat.beq b b&&(Nat.beq 0 0&&(!false&&(Nat.beq 0 0&&Nat.beq b b))))) _ _)=_;rw[c1.1,zPR,z];simp only[Bool.false_and,cond_false,aI,zQE,Bool.not_false,cond_true]
      ·simp only[SV.ok];refine⟨ho.ver _ _ hk,fun ob hob _=>?_⟩;rw[hk] at hob;cases hob;exact⟨_,_,_,rfl,zPL z⟩
     ·cases e4
    ·cases e1
   ·cases e
  ·cases e
 ·cases e
end
end Go.Sv
namespace Go.Sv
open Go.Idl
variable [Gc]
variable {P:Program}{t t2:TypeId}{a b:ByteArray}{ph:PHp}
theorem dA {v:Value}(h3:qKQ v=true)(h4:ofC v=fvv v):qUU (qDN H00 v)=some (fvv v):=by
 unfold qDN;rw[h3];show some (ofC v)=_;rw[h4]
theorem qMZ {op:BinOp}{v:Value}(h1:zGM P (cop (.binOp op t (.const (.string a)) (.const (.string b)) t2)) op t (.string a) (.string b) [] H00=jE P (cop (.binOp op t (.const (.string a)) (.const (.string b)) t2)) [] H00)
 (h2:yZ P (execOp (Env.val []) (cop (.binOp op t (.const (.string a)) (.const (.string b)) t2)))=some (.value v)) (h3:qKQ v=true) (h4:ofC v=fvv v):wR P op t t2 (fvv (.string a)) (fvv (.string b)) ph=some (fvv v):=by
 unfold wR;simp only[fvv,pl,zDD,cond_false];show qUU (zGM P _ op t (.string a) (.string b) [] H00)=_;rw[h1];unfold jE;have:zQ (kY (Env.val []) (cop (.binOp op t (.const (.string a)) (.const (.string b)) t2)).op.operands.toList)=true:=rfl;rw[if_pos this,h2];exact dA h3 h4
theorem q74 (hl:a.size+b.size<=9223372036854775807):wR P .add t t2 (fvv (.string a)) (fvv (.string b)) ph=some (fvv (.string (a++b))):=by
 refine qMZ rfl ?_ rfl rfl;have hm:IntKind.i64.max=9223372036854775807:=rfl;have:¬ (((a.size+b.size:Nat):Int) > IntKind.i64.max):=by rw[hm];omega
 show yZ P (do eqGuard .add t (.const (.string a)) (.const (.string b)) (.string a) (.string b);let v <- Op.stringOp .add a b;pure (Next.value v))=_;unfold Op.stringOp;simp only[this,if_false];rfl
theorem q7S:wR P .eql t t2 (fvv (.string a)) (fvv (.string b)) ph=some (fvv (.bool (a.toList==b.toList))):=qMZ rfl rfl rfl rfl
theorem q8G:wR P .neq t t2 (fvv (.string a)) (fvv (.string b)) ph=some (fvv (.bool (!(a.toList==b.toList)))):=qMZ rfl rfl rfl rfl
theorem dB {α β:Type}(s:Sem α)(g:α->Sem β):yZ P (s >>= g)=(yZ P s).bind fun a=>yZ P (g a):=jG g s
theorem dP {α:Type}(a:α):yZ P (pure a:Sem α)=some a:=rfl
theorem q02 {ts:Array TypeId}(hs:qZ4 P ts=true):∃ t,ts[0]?=some t∧P.underlying t=some .string:=by
 unfold qZ4 at hs
 cases h0:ts[0]? with
 | none=>rw[h0] at hs;cases hs
 | some t =>
   rw[h0] at hs;simp only[zP8] at hs;split at hs
   ·rename_i hq;exact⟨t,rfl,hq⟩
   ·cases hs
theorem zCJ {t:TypeId}{ts:Array TypeId}{ty:TypeId}(h0:ts[0]?=some t)(hu:P.underlying t=some .string):yZ P (Go.Builtin.len_ ts ty #[.string a])=some (goInt a.size):=by
 unfold Go.Builtin.len_;simp only[h0,dB,yB,hu,zP8,zRO,zQF];rfl
theorem qQ5 {x:Operand}{ts:Array TypeId}{ty:TypeId}{env:Env}(hs:qZ4 P ts=true)(hx:env.val x=.string a) :
 qUU (jE P (cop (.call ⟨.builtin .len,#[x],ts⟩) ty) env H00)=some (fvv (.int .i64 (a.size:Int))):=by
 have h2:kY env.val (cop (.call ⟨.builtin .len,#[x],ts⟩) ty).op.operands.toList=[env.val x]:=rfl;unfold jE;rw[h2];obtain⟨t,h0,hu⟩:=q02 hs;have hp:zQ [env.val x]=true:=by rw[hx];rfl
 rw[if_pos hp]
 have he:yZ P (execOp env.val (cop (.call ⟨.builtin .len,#[x],ts⟩) ty))=some (.value (goInt a.size)):=by
  simp only[cop,execOp,resolve,List.map_toArray,zP3,zRS,hx];show yZ P (do let v <- Go.Builtin.len_ ts ty #[.string a];pure (Next.value v))=_;rw[dB,zCJ h0 hu];rfl
 rw[he];exact dA rfl rfl
def q7A (s:ByteArray)(i:Int):Option Int:=if 0<=i then (s[i.toNat]?).map fun b=>(b.toNat:Int) else none
theorem q1A {t:TypeId}{s:ByteArray}{k:IntKind}{i c:Int}{ty:TypeId}(hu:P.underlying t=some .string)(h:q7A s i=some c):qOE P (.index t (.const (.string s)) (.const (.int k i))) ty=some (fvv (.int .u8 c)):=by
 unfold qOE jE;have hp:zQ (kY (Env.val []) (cop (.index t (.const (.string s)) (.const (.int k i))) ty).op.operands.toList)=true:=rfl;rw[if_pos hp]
 have he:yZ P (execOp (Env.val []) (cop (.index t (.const (.string s)) (.const (.int k i))) ty))=some (.value (.int .u8 c)):=by
  show yZ P (do let v <- Instr.index t (.string s) (.int k i);pure (Next.value v))=_;unfold q7A at h;split at h
  ·rename_i hc;obtain⟨b,hb,rfl⟩:=zPV.1 h;unfold Instr.index;simp only[dB,yB,hu,zP8];have h0:yZ P (asIntOf (.int k i))=some (k,i):=rfl;rw[h0];simp only[zP8,if_pos hc,hb,dP]
  ·cases h
 rw[he];exact dA rfl rfl
theorem qAU {k:IntKind}{i:Int}{y n:Nat}{code:BoundsCode}(h:(if 0<=i∧i<=(y:Int) then some i.toNat else none)=some n):yZ P (Instr.sliceBound (.int k i) y code)=some n:=by
 unfold Instr.sliceBound;rw[dB];have h0:yZ P (asIntOf (.int k i))=some (k,i):=rfl;rw[h0];simp only[zP8];split at h
 ·rename_i hc;rw[if_pos hc];cases h;rfl
 ·cases h
theorem qV5 {d most n:Nat}{x:Option PV}(h:bnd d most x=some n):(x=none∧n=d)∨∃ k i,x=some (fvv (.int k i))∧(if 0<=i∧i<=(most:Int) then some i.toNat else none)=some n:=by
 unfold bnd at h;split at h
 ·cases h;exact .inl ⟨rfl,rfl⟩
 ·rename_i k i;exact .inr ⟨k,i,rfl,h⟩
 ·cases h
theorem q0P {t:TypeId}{s:ByteArray}{lo hi:Option Operand}{l u:Nat}{env:List PV}{ty:TypeId}(hu:P.underlying t=some .string)(h1:bnd s.size s.size (hi.map (qK env))=some u)(h2:bnd 0 u (lo.map (qK env))=some l) :
 qOE P (.slice t (.const (.string s)) (lo.map fun a=>.const ((pl (qK env a)).getD undef)) (hi.map fun a=>.const ((pl (qK env a)).getD undef)) none) ty=some (fvv (.string (s.extract l u))):=by
 have opt:∀ {o:Option Operand} {d most n:Nat},bnd d most (o.map (qK env))=some n->(o=none∧n=d)∨∃ k i,(o.map fun a=>Operand.const ((pl (qK env a)).getD undef))=some (.const (.int k i))∧(if 0<=i∧i<=(most:Int) then some i.toNat else none)=some n:=fun {o d most n} h=>by
  rcases qV5 h with ⟨q,e⟩ | ⟨k,i,q,e⟩
  ·cases o with
   | none=>exact .inl ⟨rfl,e⟩
   | some a=>cases q
  ·cases o with
   | none=>cases q
   | some a =>
     have q:qK env a=fvv (.int k i):=by simpa using q
     exact .inr ⟨k,i,by simp[q,fvv,pl],e⟩
 unfold qOE jE
 have hk:∀ (lo' hi':Option Operand) (vl vh:Option Value),lo'.map (Env.val [])=vl->hi'.map (Env.val [])=vh->zQ (kY (Env.val []) (cop (.slice t (.const (.string s)) lo' hi' none) ty).op.operands.toList)=true ->
  yZ P (Instr.sliceBounds false s.size s.size vl vh none)=some (l,u,s.size)->qUU (if zQ (kY (Env.val []) (cop (.slice t (.const (.string s)) lo' hi' none) ty).op.operands.toList)=true then qGX H00 (yZ P (execOp (Env.val []) (cop (.slice t (.const (.string s)) lo' hi' none) ty))) else none)=some (fvv (.string (s.extract l u))):=by
  intro lo' hi' vl vh e1 e2 hp hb;rw[if_pos hp]
  have he:yZ P (execOp (Env.val []) (cop (.slice t (.const (.string s)) lo' hi' none) ty))=some (.value (.string (s.extract l u))):=by
   show yZ P (do let v <- Instr.sliceAt t (.string s) (lo'.map (Env.val [])) (hi'.map (Env.val [])) none;pure (Next.value v))=_;rw[e1,e2];unfold Instr.sliceAt;simp only[dB,yB,hu,zP8];unfold Instr.slice;simp only[dB,yB,hu,zP8];simp only[zT7,zRK,if_false,dB,hb,zP8,dP]
  rw[he];exact dA rfl rfl
 have hB:∀ (vl vh:Option Value),(vh=none∧u=s.size∨∃ k i,vh=some (.int k i)∧(if 0<=i∧i<=(s.size:Int) then some i.toNat else none)=some u)->(vl=none∧l=0∨∃ k i,vl=some (.int k i)∧(if 0<=i∧i<=(u:Int) then some i.toNat else none)=some l) ->
  yZ P (Instr.sliceBounds false s.size s.size vl vh none)=some (l,u,s.size):=by
  intro vl vh a b;unfold Instr.sliceBounds;rcases a with ⟨rfl,rfl⟩ | ⟨k,i,rfl,ha⟩ <;> rcases b with ⟨rfl,rfl⟩ | ⟨k',i',rfl,hb⟩ <;> simp only[dB,dP,zP8,zT7,zRK,if_false]
  ·rw[qAU hb];rfl
  ·rw[qAU ha];rfl
  ·rw[qAU ha];simp only[zP8];rw[qAU hb];rfl
 rcases opt h1 with ⟨rfl,e1⟩ | ⟨k,i,e1,f1⟩ <;> rcases opt h2 with ⟨rfl,e2⟩ | ⟨k',i',e2,f2⟩
 ·exact hk none none none none rfl rfl rfl (hB _ _ (.inl ⟨rfl,e1⟩) (.inl ⟨rfl,e2⟩))
 ·rw[e2];exact hk _ none _ none rfl rfl rfl (hB _ _ (.inl ⟨rfl,e1⟩) (.inr ⟨k',i',rfl,f2⟩))
 ·rw[e1];exact hk none _ none _ rfl rfl rfl (hB _ _ (.inr ⟨k,i,rfl,f1⟩) (.inl ⟨rfl,e2⟩))
 ·rw[e1,e2];exact hk _ _ _ _ rfl rfl rfl (hB _ _ (.inr ⟨k,i,rfl,f1⟩) (.inr ⟨k',i',rfl,f2⟩))
theorem q7V {s d:TypeId}{k k':IntKind}{x:Int}{u:TypeDesc}(hs:P.underlying s=some u)(hd:P.underlying d=some (.int k')):bU P (fun a=>.convert s d a) (fvv (.int k x))=some (fvv (.int k' (k'.wrap x))):=by
 have hl:pl (fvv (.int k x))=some (.int k x):=rfl;unfold bU;rw[hl];unfold qOE jE;have hp:zQ (kY (Env.val []) (cop (.convert s d (.const (.int k x)))).op.operands.toList)=true:=rfl;simp only[hp,if_true]
 have he:yZ P (execOp (Env.val []) (cop (.convert s d (.const (.int k x)))))=some (.value (.int k' (k'.wrap x))):=by
  show yZ P (do let v <- convert s d (.int k x);pure (Next.value v))=_;unfold convert;simp only[dB,yB,hs,hd,zP8];rfl
 rw[he];exact dA rfl rfl
theorem q0K {s d:TypeId}{x:ByteArray}{u:TypeDesc}(hs:P.underlying s=some u)(hd:P.underlying d=some .string):bU P (fun a=>.convert s d a) (fvv (.string x))=some (fvv (.string x)):=by
 have hl:pl (fvv (.string x))=some (.string x):=rfl;unfold bU;rw[hl];unfold qOE jE;have hp:zQ (kY (Env.val []) (cop (.convert s d (.const (.string x)))).op.operands.toList)=true:=rfl;simp only[hp,if_true]
 have he:yZ P (execOp (Env.val []) (cop (.convert s d (.const (.string x)))))=some (.value (.string x)):=by
  show yZ P (do let v <- convert s d (.string x);pure (Next.value v))=_;unfold convert;simp only[dB,yB,hs,hd,zP8];cases u <;> rfl
 rw[he];exact dA rfl rfl
end Go.Sv
namespace Go.Sv
open Go.Idl
noncomputable section
variable [Gc]
variable [Yl]
variable {P:Program}{h:SH}{R:Type}{r:R}
def qFK:SV->Option Value
 | .d (.int k) x=>some (.int k x)
 | .d .bool x=>some (.bool x)
 | .d .str x=>some (.string x)
 | .c v=>some v
 | _=>none
theorem sH {v:SV}{a:Value}(e:qFK v=some a):v.enc=fvv a:=by
 unfold qFK at e;split at e <;> cases e <;> simp[SV.enc,Ty.fv,fvv]
def qIM:List SV->Option (List Value)
 | []=>some []
 | v::l=>match qFK v,qIM l with
   | some a,some b=>some (a::b)
   | _,_=>none
def bP:SV->Option Value
 | .agg l=>(match qIM l with
   | some vs=>some (.agg vs.toArray)
   | none=>none)
 | v=>qFK v
theorem qEO:∀ {l:List SV} {vs:List Value},qIM l=some vs->qJW (qB l)=some vs
 | [],vs,e=>by cases e;simp[qB,qJW]
 | v::l,vs,e=>by
   unfold qIM at e;split at e
   ·rename_i a b ha hb;cases e;simp only[qB,sH ha,fvv,qJW,pl1,qEO hb]
   ·cases e
theorem wO {v:SV}{a:Value}(e:bP v=some a):pl v.enc=some a:=by
 unfold bP at e;split at e
 ·rename_i l;split at e
  ·rename_i vs hvs;cases e;simp only[SV.enc,pl,qEO hvs]
  ·cases e
 ·rw[sH e];rfl
def zFA (op:BinOp)(a b:ByteArray)(K:SV->zF6 R)(F:zF6 R):zF6 R:=match op with
 | .add=>.ite (Nat.ble (a.size+b.size) 9223372036854775807) (K (.d .str (a++b))) .fail
 | .eql=>K (.d .bool (a.toList==b.toList))
 | .neq=>K (.d .bool (!(a.toList==b.toList)))
 | _=>F
def qQF (P:Program)(t:TypeId):Bool:=match P.underlying t with
 | some .string=>true
 | _=>false
omit [Yl] in
theorem qF0 {t:TypeId}(e:qQF P t=true):P.underlying t=some .string:=by
 unfold qQF at e;split at e
 ·assumption
 ·cases e
def qOZ (P:Program)(t:TypeId)(s:ByteArray)(ix:SV)(K:SV->zF6 R):zF6 R:=match asI ix with
 | some (_,i)=>cond (qQF P t) (.bind (q7A s i) fun c=>K (.d (.int .u8) c)) .fail
 | none=>.fail
def qUL (P:Program)(t:TypeId)(s:ByteArray)(lo hi:Option SV)(K:SV->zF6 R):zF6 R :=
 cond (qQF P t) (qPX s.size s.size hi fun b=>qPX 0 b lo fun a=>K (.d .str (s.extract a b))) .fail
def q27 (P:Program)(s d:TypeId)(x:SV)(K:SV->zF6 R)(F:zF6 R):zF6 R:=match P.underlying s,P.underlying d with
 | some _,some (.int k')=>(match asI x with
   | some (_,a)=>K (.d (.int k') (k'.wrap a))
   | none=>F)
 | some _,some .string=>(match asS x with
   | some a=>K (.d .str a)
   | none=>F)
 | _,_=>F
def Ty.vals:(t:Ty)->List Value->Option (t.sem×List Value)
 | .int k,.int k' x::l=>cond (decide (k'=k)) (some (x,l)) none
 | .bool,.bool x::l=>some (x,l)
 | .str,.string x::l=>some (x,l)
 | .unit,l=>some ((),l)
 | .pair a b,l=>match a.vals l with
   | some (x,l1)=>(match b.vals l1 with
     | some (y,l2)=>some ((x,y),l2)
     | none=>none)
   | none=>none
 | _,_=>none
def Ty.ofV (t:Ty)(v:Value):Option t.sem:=cond t.one (match t.vals [v] with
 | some (x,[])=>some x
 | _=>none) (match v with
 | .agg a=>(match t.vals a.toList with
   | some (x,[])=>some x
   | _=>none)
 | _=>none)
def q13 (t:Ty)(x:t.sem):SV:=cond t.one (.d t x) (.agg (t.svs x))
omit [Yl] in
theorem qC2 (t:Ty)(x:t.sem):(q13 t x).ok h:=by
 unfold q13
 cases t.one with
 | true=>simp[SV.ok]
 | false=>simp only[cond_false,SV.ok];exact qFU t x
omit [Yl] in
theorem qL1:∀ {a b:List Value},jK okC a=true->jK okC b=true->jK okC (a++b)=true
 | [],_,_,h=>h
 | x::a,b,h1,h2=>by
   rw[xU,zPK] at h1;rw[zRM,xU,h1.1,qL1 h1.2 h2];rfl
omit [Yl] in
theorem eD:∀ {t:Ty} {l l':List Value} {x:t.sem},t.vals l=some (x,l')->∃ us,l=us++l'∧jK okC us=true∧kY fvv us=(t.cells x).map PV.f
 | .int k,l,l',x,e=>by
   cases l with
   | nil=>cases e
   | cons v l =>
     cases v <;> try (cases e;done)
     rename_i k' y;have e:cond (decide (k'=k)) (some ((y:Int),l)) none=some (x,l'):=e
     cases hk:decide (k'=k) with
     | false=>rw[hk] at e;cases e
     | true =>
       rw[hk] at e;cases e;have:k'=k:=by simpa using hk
       subst this;exact⟨[.int k' x],rfl,rfl,rfl⟩
 | .bool,l,l',x,e=>by
   cases l with
   | nil=>cases e
   | cons v l =>
     cases v <;> try (cases e;done)
     cases e;exact⟨[.bool x],rfl,rfl,rfl⟩
 | .str,l,l',x,e=>by
   cases l with
   | nil=>cases e
   | cons v l =>
     cases v <;> try (cases e;done)
     cases e;exact⟨[.string x],rfl,rfl,rfl⟩
 | .unit,l,l',x,e=>by
   have e:some ((),l)=some ((),l'):=by cases l <;> exact e
   cases e;exact⟨[],rfl,rfl,rfl⟩
 | .list _ _,l,l',x,e=>by cases l <;> cases e
 | .raw,l,l',x,e=>by cases l <;> cases e
 | .ol _ _,l,l',x,e=>by cases l <;> cases e
 | .nif,l,l',x,e=>by cases l <;> cases e
 | .pair a b,l,l',x,e=>by
   have e:(match a.vals l with
    | some (x,l1)=>(match b.vals l1 with
      | some (y,l2)=>some ((x,y),l2)
      | none=>none)
    | none=>none)=some (x,l'):=by cases l <;> exact e
   split at e
   ·rename_i x1 l1 h1;split at e
    ·rename_i y l2 h2;cases e;obtain⟨us,rfl,u1,u2⟩:=eD h1;obtain⟨ws,rfl,w1,w2⟩:=eD h2;refine⟨us++ws,by rw[zQK],?_,?_⟩
     ·exact qL1 u1 w1
     ·show _=(a.cells x1++b.cells y).map PV.f;rw[xJ] at u2 w2 ⊢;rw[zQX,zQX,u2,w2]
    ·cases e
   ·cases e
theorem sM {t:Ty}{v:Value}{x:t.sem}(e:t.ofV v=some x):ofC v=(q13 t x).enc:=by
 unfold Ty.ofV at e;unfold q13
 cases ht:t.one with
 | true =>
   rw[ht] at e;simp only[cond_true] at e ⊢;split at e
   ·rename_i y hy;cases e;obtain⟨us,h1,h2,h3⟩:=eD hy;rw[zRF] at h1;subst h1;rw[Ty.cells_one ht] at h3
    have h3:fvv v=.f (t.fv x):=by
     have:kY fvv [v]=[fvv v]:=rfl;rw[this] at h3;simpa using h3
    have h2:okC v=true:=by
     rw[xU,zPK] at h2;exact h2.1
    have:ofC v=fvv v:=by
     unfold okC at h2;rw[zPK] at h2
     cases v <;> first | (exact absurd h2.2 (by decide)) | skip
     all_goals first | (show q7I _=_;unfold q7I okC;simp[h2.1,h2.2]) | (simp[oneCell] at h2)
    rw[this,h3];simp[SV.enc]
   ·cases e
 | false =>
   rw[ht] at e;simp only[cond_false] at e ⊢;split at e
   ·rename_i a;split at e
    ·rename_i y hy;cases e;obtain⟨us,h1,h2,h3⟩:=eD hy;rw[zRF] at h1;show cond (jK okC a.toList) (PV.agg (kY fvv a.toList)) .unk=_;rw[h1,h2,h3];simp only[cond_true,SV.enc,fP]
    ·cases e
   ·cases e
def smp (x:SV)(h:SH):Option (Nat×List (Value×Value)):=match x with
 | .mp k=>(match slk k h.l with
   | some (.spc _ (.map es))=>some (k,es)
   | _=>none)
 | _=>none
omit [Yl] in
theorem gH:∀ (n:Nat) (es:List (Value×Value)) (i:Nat),(yE n es)[i]?=(es[i]?).map fun p=>(⟨p.1,p.2,n+i⟩:MapEntry)
 | n,[],i=>by simp[yE]
 | n,p::es,0=>by simp[yE]
 | n,p::es,i+1=>by
   show (yE (n+1) es)[i]?=_;rw[gH (n+1) es i];have:n+1+i=n+(i+1):=by omega
   rw[this];simp
omit [Yl] in
theorem qDH:∀ (n:Nat) (es:List (Value×Value)),(yE n es).length=es.length
 | n,[]=>rfl
 | n,p::es=>by
   show (yE (n+1) es).length+1=_;rw[qDH,zP5]
omit [Yl] in
theorem oZ:∀ (n:Nat) (es:List (Value×Value)) (k v:Value),yE n (es++[(k,v)])=yE n es++[⟨k,v,n+es.length⟩]
 | n,[],k,v=>rfl
 | n,p::es,k,v=>by
   show _::yE (n+1) (es++[(k,v)])=_;rw[oZ (n+1) es k v];show _=_::(yE (n+1) es++_);rw[zP5];have:n+1+es.length=n+(es.length+1):=by omega
   rw[this]
omit [Yl] in
theorem qDE (es:List (Value×Value))(i:Nat)(k v:Value)(f:MapEntry->MapEntry)(hf:∀ p,es[i]?=some p->f ⟨p.1,p.2,i⟩=⟨k,v,i⟩):yE 0 (es.set i (k,v))=(yE 0 es).modify i f:=by
 apply zQ1;intro j;rw[gH,zTV,gH,zQG,zP4];by_cases hij:i=j
 ·subst hij;rw[if_pos rfl];simp only[if_true]
  cases he:es[i]? with
  | none =>
    have:¬ i < es.length:=fun hl=>by rw[zPO hl] at he;cases he
    rw[if_neg this];rfl
  | some p =>
    have:=(zPQ.1 he).1;rw[if_pos this];simp[hf p he]
 ·rw[if_neg hij];simp only[if_neg hij];cases es[j]? <;> rfl
theorem q0N {x:SV}{k:Nat}{es:List (Value×Value)}(hs:spec P 1000000001=true)(e:smp x h=some (k,es)):gK P x.enc (qC h.l)=some (k,(SpO.map es).enc,es.length,yE 0 es)∧∃ w,slk k h.l=some (.spc w (.map es)):=by
 unfold smp at e;split at e
 ·rename_i k';split at e
  ·rename_i w es' hk;cases e;refine⟨?_,w,hk⟩;simp only[SV.enc,gK,zN hk]
   show cond (spec P 1000000001&&Nat.beq 1000000001 1000000001) (match mapOf (kV es.length (yE 0 es)) with
    | some (c,es')=>some (k,(SO.spc w (SpO.map es)).enc,c,es')
    | none=>none) none=_
   rw[hs,qHX];rfl
  ·cases e
 ·cases e
def q0O (P:Program)(kt:TypeId)(k:Value)(es:List (Value×Value)):Option Bool:=(wH P kt k (yE 0 es)).map Option.isSome
def q04 (P:Program)(kt:TypeId)(t:Ty)(k:Value)(es:List (Value×Value)):Option t.sem:=match wH P kt k (yE 0 es) with
 | some (some i)=>(match es[i]? with
   | some p=>t.ofV p.2
   | none=>none)
 | _=>none
def q7L (ok:Bool)(t:Ty)(x:t.sem)(b:Bool):SV:=cond ok (.tup [q13 t x,.c (.bool b)]) (q13 t x)
theorem qQ0 {ok b:Bool}{t:Ty}{x:t.sem}{v:Value}(e:t.ofV v=some x):q3G ok v b=(q7L ok t x b).enc:=by
 unfold q3G q7L
 cases ok with
 | true=>simp[sM e,SV.enc,qB]
 | false=>exact sM e
omit [Yl] in
theorem qZI {ok b:Bool}{t:Ty}{x:t.sem}:(q7L ok t x b).ok h:=by
 unfold q7L
 cases ok with
 | true=>simp only[cond_true,SV.ok,okL,and_true];exact qC2 t x
 | false=>exact qC2 t x
def qNA (P:Program)(t:TypeId)(m kx:SV)(ok:Bool)(h:SH)(K:SV->zF6 R):zF6 R:=match P.underlying t,smp m h,bP kx with
 | some (.map kt et),some (_,es),some kv=>(match qDK P 8 et,wV P et with
   | some vt,some z=>(match vt.ofV z with
     | some z0=>cond (spec P 1000000001&&zP z) (.bind (q0O P kt kv es) fun b=>.ite b (.bind (q04 P kt vt kv es) fun x=>K (q7L ok vt x true)) (K (q7L ok vt z0 false))) .fail
     | none=>.fail)
   | _,_=>.fail)
 | _,_,_=>.fail
theorem qSH {t:TypeId}{m kx:SV}{ok:Bool}{K:SV->zF6 R}(e:(qNA P t m kx ok h K).run=some r):∃ v,kR P t m.enc kx.enc ok (qC h.l)=some v.enc∧v.ok h∧(K v).run=some r:=by
 unfold qNA at e;split at e
 case h_2=>cases e
 rename_i kt et k es kv hu hm hk;split at e
 case h_2=>cases e
 rename_i vt z hvt hz;split at e
 case h_2=>cases e
 rename_i z0 hz0;obtain⟨c,e1⟩:=qE e;rw[zPK] at c;obtain⟨b,hb,e2⟩:=run_bind e1;obtain⟨h1,w,h2⟩:=q0N c.1 hm
 have pre:kR P t m.enc kx.enc ok (qC h.l)=(match wH P kt kv (yE 0 es) with
  | some (some i)=>(match (yE 0 es)[i]? with
    | some e=>some (q3G ok e.val true)
    | none=>none)
  | some none=>some (q3G ok z false)
  | none=>none):=by
  unfold kR;rw[hu,h1,wO hk];simp only[hz,c.2,cond_true];rfl
 rw[pre];unfold q0O at hb
 cases hf:wH P kt kv (yE 0 es) with
 | none=>rw[hf] at hb;cases hb
 | some o =>
   rw[hf] at hb
   cases o with
   | none =>
     cases hb;refine⟨_,by simp only[qQ0 hz0],qZI,e2⟩
   | some i =>
     cases hb;obtain⟨x,hx,e3⟩:=run_bind (show (zF6.bind (q04 P kt vt kv es) fun x=>K (q7L ok vt x true)).run=some r from e2);unfold q04 at hx;rw[hf] at hx;simp only at hx;split at hx
     ·rename_i p hp;refine⟨_,?_,qZI,e3⟩;simp only[gH,hp,zPZ,qQ0 hx]
     ·cases hx
def qZV (P:Program)(kt:TypeId)(k v:Value)(es:List (Value×Value)):Option (List (Value×Value)):=match wH P kt k (yE 0 es) with
 | some (some i)=>(match es[i]? with
   | some p=>cond (Instr.sameBits 10000 p.1 k) (some (es.set i (k,v))) none
   | none=>none)
 | some none=>some (es++[(k,v)])
 | none=>none
def rR (P:Program)(t:TypeId)(m kx x:SV)(h:SH)(K:SV->SH->zF6 R):zF6 R:=match P.underlying t,smp m h,bP kx,bP x with
 | some (.map kt _),some (k,es),some kv,some xv=>cond (spec P 1000000001&&zF xv) (.bind (qZV P kt kv xv es) fun es'=>K (.tup []) (h.put k fun v=>.spc v (.map es'))) .fail
 | _,_,_,_=>.fail
theorem aS {k:Nat}{es es':List (Value×Value)}{w:Nat}(ho:OkH P h)(hk:slk k h.l=some (.spc w (.map es))):Keep h (h.put k fun v=>.spc v (.map es'))∧OkH P (h.put k fun v=>.spc v (.map es')) ∧
 qC (h.put k fun v=>.spc v (.map es')).l=xR k { (SpO.map es).enc with cs:=kV es'.length (yE 0 es') } (qC h.l):=by
 have:=vY (f:=fun v=>.spc v (.map es')) ho hk rfl;exact⟨this.1,this.2,xX k _ _⟩
theorem qG0 {t:TypeId}{m kx x:SV}{K:SV->SH->zF6 R}(ho:OkH P h)(e:(rR P t m kx x h K).run=some r) :
 ∃ h',jZ P t m.enc kx.enc x.enc (qC h.l)=some (qC h'.l)∧Keep h h'∧OkH P h'∧(K (.tup []) h').run=some r:=by
 unfold rR at e;split at e
 case h_2=>cases e
 rename_i kt et k es kv xv hu hm hkv hxv;obtain⟨c,e1⟩:=qE e;rw[zPK] at c;obtain⟨es',hs,e2⟩:=run_bind e1;obtain⟨h1,w,h2⟩:=q0N c.1 hm;obtain⟨p1,p2,p3⟩:=aS (es':=es') ho h2;refine⟨_,?_,p1,p2,e2⟩;unfold jZ;rw[hu,h1,wO hkv,wO hxv,p3];simp only[c.2,cond_true];unfold qZV at hs
 cases hf:wH P kt kv (yE 0 es) with
 | none=>rw[hf] at hs;cases hs
 | some o =>
   rw[hf] at hs
   cases o with
   | none =>
     cases hs;simp only[oZ,zP9,zP5,zS8,zP4]
   | some i =>
     simp only at hs ⊢;split at hs
     ·rename_i p hp
      cases hb:Instr.sameBits 10000 p.1 kv with
      | false=>rw[hb] at hs;cases hs
      | true =>
        rw[hb] at hs;cases hs;simp only[gH,hp,zPZ,hb,cond_true];rw[qDE es i kv xv (fun e=>{ e with key:=kv,val:=xv }) (fun _ _=>rfl),zQM]
     ·cases hs
def zFF (P:Program)(kt:TypeId)(t:Ty)(k z:Value)(es:List (Value×Value)):Option (List (Value×Value)×Nat×t.sem):=match wH P kt k (yE 0 es) with
 | some (some i)=>(match es[i]? with
   | some p=>cond (Instr.sameBits 10000 p.1 k&&q9I i (wH P kt k (yE 0 (es.set i (k,p.2))))) (match t.ofV p.2 with
     | some x=>some (es.set i (k,p.2),i,x)
     | none=>none) none
   | none=>none)
 | some none=>cond (q9I es.length (wH P kt k (yE 0 (es++[(k,z)])))) (match t.ofV z with
   | some x=>some (es++[(k,z)],es.length,x)
   | none=>none) none
 | none=>none
def qBN (P:Program)(t:TypeId)(m kx:SV)(h:SH)(K:SV->SH->zF6 R):zF6 R:=match P.underlying t,smp m h,bP kx with
 | some (.map kt et),some (k,es),some kv=>(match qDK P 8 et,wV P et with
   | some vt,some z=>cond (spec P 1000000001&&zP z) (.bind (zFF P kt vt kv z es) fun q=>K (.tup [q13 vt q.2.2,.d (.int .i64) (q.2.1:Int)]) (h.put k fun v=>.spc v (.map q.1))) .fail
   | _,_=>.fail)
 | _,_,_=>.fail
theorem qKV {t:TypeId}{m kx:SV}{K:SV->SH->zF6 R}(ho:OkH P h)(e:(qBN P t m kx h K).run=some r) :
 ∃ v h',kJ P t m.enc kx.enc (qC h.l)=some (v.enc,qC h'.l)∧Post P h h' v∧(K v h').run=some r:=by
 unfold qBN at e;split at e
 case h_2=>cases e
 rename_i kt et k es kv hu hm hkv;split at e
 case h_2=>cases e
 rename_i vt z hvt hz;obtain⟨c,e1⟩:=qE e;rw[zPK] at c;obtain⟨q,hs,e2⟩:=run_bind e1;obtain⟨h1,w,h2⟩:=q0N c.1 hm;obtain⟨p1,p2,p3⟩:=aS (es':=q.1) ho h2;refine⟨_,_,?_,⟨p1,p2,?_⟩,e2⟩
 ·unfold kJ;rw[hu,h1,wO hkv,p3];unfold zFF at hs
  cases hf:wH P kt kv (yE 0 es) with
  | none=>rw[hf] at hs;cases hs
  | some o =>
    rw[hf] at hs
    cases o with
    | none =>
      simp only at hs ⊢;obtain⟨hat,hs⟩:=yP hs;split at hs
      ·rename_i x hx;cases hs
       have hat':q9I (yE 0 es).length (wH P kt kv (yE 0 es++[⟨kv,z,es.length⟩]))=true:=by
        rw[oZ,zP4] at hat;rw[qDH];exact hat
       simp only[hf,hz,c.2,hat',zQE,cond_true,oZ,zP9,zP5,zS8,zP4,SV.enc,qB,sM hx,Ty.fv,fvv]
      ·cases hs
    | some i =>
      simp only at hs ⊢;split at hs
      ·rename_i p hp;obtain⟨hb',hs⟩:=yP hs;rw[zPK] at hb';obtain⟨hb,hat⟩:=hb'
       ·split at hs
        ·rename_i x hx;cases hs;rw[qDE es i kv p.2 (fun e=>{ e with key:=kv }) (fun p' hp'=>by rw[hp] at hp';cases hp';rfl)] at hat;simp only[hf,gH,hp,zPZ,hb,hat,zQE,cond_true,SV.enc,qB,sM hx,Ty.fv,fvv,zP4];rw[qDE es i kv p.2 (fun e=>{ e with key:=kv }) (fun p' hp'=>by rw[hp] at hp';cases hp';rfl),zQM]
        ·cases hs
      ·cases hs
 ·simp only[SV.ok,okL,and_true];exact qC2 _ _
def qRP (P:Program)(k:Nat)(h:SH)(K:SV->SH->zF6 R):zF6 R:=cond (spec P 1000000001) (K (.mp k) (h.new k fun v=>.spc v (.map []))) .fail
theorem qMW {k:Nat}{K:SV->SH->zF6 R}(ho:OkH P h)(e:(qRP P k h K).run=some r):∃ v h',dF P k (qC h.l)=some (v.enc,qC h'.l)∧Post P h h' v∧(K v h').run=some r:=by
 obtain⟨c,e1⟩:=qE e;have hp:=xL (k:=k) (f:=fun v=>.spc v (.map [])) ho rfl;refine⟨_,_,?_,⟨hp.1,hp.2,by simp[SV.ok]⟩,e1⟩;unfold dF;rw[c];simp only[cond_true,qEA,SV.enc];rfl
def q66 (P:Program)(ts:Array TypeId)(x:SV)(h:SH):Option SV:=match smp x h with
 | some (_,es)=>cond (spec P 1000000001&&zBY P ts) (some (.d (.int .i64) ((List.length es:Nat):Int))) none
 | none=>none
theorem q05 {ts:Array TypeId}{x v:SV}(e:q66 P ts x h=some v):qD6 P ts x.enc (qC h.l)=some v.enc∧v.ok h:=by
 unfold q66 at e;split at e
 case h_2=>cases e
 rename_i k es hm
 cases hc:(spec P 1000000001&&zBY P ts) with
 | false=>rw[hc] at e;cases e
 | true =>
   rw[hc] at e;cases e;rw[zPK] at hc;refine⟨?_,by simp[SV.ok]⟩;unfold smp at hm;split at hm
   case h_2=>cases hm
   rename_i k';split at hm
   case h_2=>cases hm
   rename_i w es' hk;cases hm
   have h1:tT P (SV.enc (.mp k)) (qC h.l)=some (kV es.length (yE 0 es)):=by
    simp only[SV.enc,tT,zN hk];show cond (!false&&(spec P 1000000001&&Nat.beq 1000000001 1000000001)) (some (kV es.length (yE 0 es))) none=_;rw[hc.1];rfl
   unfold qD6;rw[h1];simp only[hc.2,cond_true,kK,qDH];have:(3*es.length+1) / 3=es.length:=by omega
   rw[this];simp[SV.enc,Ty.fv,fvv]
omit [Yl] in
theorem qLV {p:Value->Bool}:∀ {a b:List Value},jK p a=true->jK p b=true->jK p (a++b)=true
 | [],_,_,h=>h
 | x::a,b,h,h2=>by
   rw[zRM,xU,zPK];rw[xU,zPK] at h;exact⟨h.1,qLV h.2 h2⟩
omit [Yl] in
theorem cK (n:Nat):∀ {t:Ty} {l l':List Value} {x:t.sem},t.vals l=some (x,l')->∃ us,l=us++l'∧jK (xS (n+1)) us=true
 | .int k,l,l',x,e=>by
   cases l with
   | nil=>cases e
   | cons v l =>
     cases v <;> try (cases e;done)
     rename_i k' y;have e:cond (decide (k'=k)) (some ((y:Int),l)) none=some (x,l'):=e
     cases hk:decide (k'=k) with
     | false=>rw[hk] at e;cases e
     | true =>
       rw[hk] at e;cases e;exact⟨[.int k' x],rfl,rfl⟩
 | .bool,l,l',x,e=>by
   cases l with
   | nil=>cases e
   | cons v l =>
     cases v <;> try (cases e;done)
     cases e;exact⟨[.bool x],rfl,rfl⟩
 | .str,l,l',x,e=>by
   cases l with
   | nil=>cases e
   | cons v l =>
     cases v <;> try (cases e;done)
     cases e;exact⟨[.string x],rfl,rfl⟩
 | .unit,l,l',x,e=>by
   have e:some ((),l)=some ((),l'):=by cases l <;> exact e
   cases e;exact⟨[],rfl,rfl⟩
 | .list _ _,l,l',x,e=>by cases l <;> cases e
 | .raw,l,l',x,e=>by cases l <;> cases e
 | .ol _ _,l,l',x,e=>by cases l <;> cases e
 | .nif,l,l',x,e=>by cases l <;> cases e
 | .pair a b,l,l',x,e=>by
   have e:(match a.vals l with
    | some (x,l1)=>(match b.vals l1 with
      | some (y,l2)=>some ((x,y),l2)
      | none=>none)
    | none=>none)=some (x,l'):=by cases l <;> exact e
   split at e
   ·rename_i x1 l1 h1;split at e
    ·rename_i y l2 h2;cases e;obtain⟨us,rfl,u1⟩:=cK n h1;obtain⟨ws,rfl,w1⟩:=cK n h2;exact⟨us++ws,by rw[zQK],qLV u1 w1⟩
    ·cases e
   ·cases e
omit [Yl] in
theorem qXQ {t:Ty}{v:Value}{x:t.sem}(e:t.ofV v=some x):zP v=true:=by
 unfold Ty.ofV at e
 cases ht:t.one with
 | true =>
   rw[ht] at e;simp only[cond_true] at e;split at e
   ·rename_i y hy;obtain⟨us,h1,h2⟩:=cK 2 hy;rw[zRF] at h1;subst h1;rw[xU,zPK] at h2;exact h2.1
   ·cases e
 | false =>
   rw[ht] at e;simp only[cond_false] at e;split at e
   ·rename_i a;split at e
    ·rename_i y hy;obtain⟨us,h1,h2⟩:=cK 1 hy;rw[zRF] at h1;show jK (xS 2) a.toList=true;rw[h1];exact h2
    ·cases e
   ·cases e
omit [Yl] in
theorem qEJ:∀ (n:Nat) (es:List (Value×Value)) (i:Nat),(yE n es).find? (·.born==n+i)=(es[i]?).map fun p=>(⟨p.1,p.2,n+i⟩:MapEntry)
 | n,[],i=>by simp[yE]
 | n,p::es,0=>by simp[yE]
 | n,p::es,i+1=>by
   have h:((⟨p.1,p.2,n⟩:MapEntry).born==n+(i+1))=false:=by simp
   have ih:=qEJ (n+1) es i;have e:n+1+i=n+(i+1):=by omega
   rw[e] at ih;show List.find? (fun x=>x.born==n+(i+1)) ((⟨p.1,p.2,n⟩:MapEntry)::yE (n+1) es)=_;rw[List.find?_cons,h,ih];simp
def q5N (kt vt:Ty)(i:Nat)(es:List (Value×Value)):Option (kt.sem×vt.sem):=match es[i]? with
 | some p=>(match kt.ofV p.1,vt.ofV p.2 with
   | some x,some y=>some (x,y)
   | _,_=>none)
 | none=>none
def qV0 (P:Program)(x:SV)(h:SH)(K:SV->SH->zF6 R):zF6 R:=match x with
 | .ref k off w=>(match slk k h.l with
   | some (.spc _ (.mit t j since (last+1) _))=>(match P.underlying t,smp (.mp j) h with
     | some (.map kt vt),some (_,es)=>(match qDK P 8 kt,qDK P 8 vt with
       | some kT,some vT=>cond (spec P 1000000001&&(spec P 1000000002&&(Nat.beq w 4&&(Nat.beq off 0&&Nat.beq (List.length es) since)))) (.bind (q5N kT vT last es) fun p=>K (.tup [q13 kT p.1,q13 vT p.2]) h) .fail
       | _,_=>.fail)
     | _,_=>.fail)
   | _=>.fail)
 | _=>.fail
theorem qY8 {x:SV}{K:SV->SH->zF6 R}(ho:OkH P h)(e:(qV0 P x h K).run=some r):∃ v,qLS P x.enc (qC h.l)=some v.enc∧v.ok h∧(K v h).run=some r:=by
 unfold qV0 at e;split at e
 case h_2=>cases e
 rename_i k off w;split at e
 case h_2=>cases e
 rename_i w0 t j since last seen hk;split at e
 case h_2=>cases e
 rename_i kt vt j2 es hu hs;split at e
 case h_2=>cases e
 rename_i kT vT hkT hvT;obtain⟨c,e1⟩:=qE e;simp only[zPK] at c;obtain⟨c1,c2,c3,c4,c5⟩:=c;obtain⟨q,hq,e2⟩:=run_bind e1;obtain⟨h1,_⟩:=q0N c1 hs;unfold q5N at hq;split at hq
 case h_2=>cases hq
 rename_i p hp;split at hq
 case h_2=>cases hq
 rename_i x1 y1 hx1 hy1;cases hq;refine⟨_,?_,?_,e2⟩
 ·have e3:=zPL c3;have e4:=zPL c4;subst e3 e4;simp only[SV.enc,qLS,zN hk]
  show cond (spec P 1000000002&&(Nat.beq 1000000002 1000000002&&(Nat.beq 4 4&&Nat.beq 0 0))) (match gK P (.mp j) (qC h.l) with
   | some (_,_,c,es)=>cond (Nat.beq c (since:Int).toNat&&Nat.ble 1 ((last+1:Nat):Int).toNat) (match es.find? (·.born==((last+1:Nat):Int).toNat - 1) with
     | some e=>cond (zP e.key) (some (PV.tup [ofC e.key,ofC e.val])) none
     | none=>none) none
   | none=>none) none=_
  have h1:gK P (.mp j) (qC h.l)=some (j2,(SpO.map es).enc,es.length,yE 0 es):=h1;rw[h1,c2];have hl:((last+1:Nat):Int).toNat=last+1:=rfl;have hsi:((since:Nat):Int).toNat=since:=rfl;have hf:=qEJ 0 es last;simp only[zP4] at hf;rw[hl,hsi];simp only[Nat.add_sub_cancel,hf,hp,c5,zPZ];rw[show Nat.ble 1 (last+1)=true from zPY (by omega),show (Nat.beq 1000000002 1000000002)=true from rfl,show (Nat.beq 4 4)=true from rfl,show (Nat.beq 0 0)=true from rfl];simp only[zQE,cond_true,qXQ hx1,sM hx1,sM hy1,qB]
 ·simp only[SV.ok,okL];exact⟨qC2 _ _,qC2 _ _,trivial⟩
end
end Go.Sv
namespace Go.Sv
open Go.Idl
variable {a:Int}{b:Bool}{env:List SV}{k:IntKind}{o:Oper}{op:BinOp}{ph:PHp}{s:ByteArray}{t t2 ty:TypeId}{ts:Array TypeId}{x y:SV}
noncomputable section
variable [Gc]
variable [Yl]
variable {P:Program}{h:SH}{R:Type}{r:R}
def q70 (k:IntKind):PV->Option Int
 | .f (.v (.int k' x))=>cond (decide (k'=k)) (some x) none
 | _=>none
def q77:PV->Option Bool
 | .f (.v (.bool x))=>some x
 | _=>none
def q82:PV->Option ByteArray
 | .f (.v (.string x))=>some x
 | _=>none
def Ty.zML:(t:Ty)->PV->Option t.sem
 | .int k,p=>q70 k p
 | .bool,p=>q77 p
 | .str,p=>q82 p
 | .raw,_=>none
 | .ol _ _,_=>none
 | .nif,_=>none
 | .unit,_=>none
 | .list _ _,_=>none
 | .pair _ _,_=>none
omit [Yl] in
theorem q6L:∀ {t:Ty} {p:PV} {x:t.sem},t.zML p=some x->p=.f (t.fv x)
 | .int k,p,x,e=>by
   have e1:q70 k p=some x:=e;clear e;unfold q70 at e1;split at e1
   ·rename_i k' y;have e:=e1;clear e1
    cases hk:decide (k'=k) with
    | false=>rw[hk] at e;cases e
    | true =>
      rw[hk] at e;cases e;have:k'=k:=by simpa using hk
      subst this;rfl
   ·cases e1
 | .bool,p,x,e=>by
   have e1:q77 p=some x:=e;clear e;unfold q77 at e1;split at e1
   ·cases e1;rfl
   ·cases e1
 | .str,p,x,e=>by
   have e1:q82 p=some x:=e;clear e;unfold q82 at e1;split at e1
   ·cases e1;rfl
   ·cases e1
 | .unit,_,_,e=>by cases e
 | .list _ _,_,_,e=>by cases e
 | .pair _ _,_,_,e=>by cases e
 | .raw,_,_,e=>by cases e
 | .ol _ _,_,_,e=>by cases e
 | .nif,_,_,e=>by cases e
def Ty.zJ0 (t:Ty)(o:Option PV):Option t.sem:=o.bind t.zML
theorem qQE {t:Ty}{o:Option PV}{x:t.sem}(e:t.zJ0 o=some x):o=some (SV.d t x).enc:=by
 obtain⟨p,h1,h2⟩:=zRL.1 e;rw[h1,q6L h2];simp[SV.enc]
def sint (op:BinOp)(k:IntKind)(a b:Int)(K:SV->zF6 R)(F:zF6 R):zF6 R:=match op with
 | .lss=>K (.d .bool (decide (a < b)))
 | .leq=>K (.d .bool (decide (a<=b)))
 | .gtr=>K (.d .bool (decide (b < a)))
 | .geq=>K (.d .bool (decide (b<=a)))
 | .eql=>K (.d .bool (a==b))
 | .neq=>K (.d .bool (a != b))
 | .add=>K (.d (.int k) (k.wrap (a+b)))
 | .sub=>K (.d (.int k) (k.wrap (a - b)))
 | .mul=>K (.d (.int k) (k.wrap (a*b)))
 | .quo=>.bind (qWZ k a b) fun c=>K (.d (.int k) c)
 | .rem=>.bind (zCY a b) fun c=>K (.d (.int k) c)
 | _=>F
omit [Yl] in
theorem q6S {x y:PV}{a b:Value}(hx:pl x=some a)(hy:pl y=some b):wR P op t t2 x y ph=wR P op t t2 (fvv a) (fvv b) []:=by
 unfold wR;rw[hx,hy];rfl
def qTU (P:Program)(op:BinOp)(t t2 ty:TypeId)(x y:SV)(K:SV->zF6 R):zF6 R:=match bP x,bP y,qDK P 8 ty with
 | some a,some b,some u=>.bind (u.zJ0 (wR P op t t2 (fvv a) (fvv b) [])) fun z=>K (.d u z)
 | _,_,_=>.fail
def zEJ (P:Program)(t:TypeId)(x y:SV)(h:SH):Option Bool:=match y with
 | .c (.slice none _ _)=>cond (zS P t).isSome (match x with
   | .own k g n=>(match slk k h.l with
     | some (.list _ gr g' _ _ _)=>cond (Nat.beq g g') (some (gr&&Nat.beq n 0)) none
     | _=>none)
   | .sl k g n _ _=>(match slk k h.l with
     | some (.list _ gr g' _ _ _)=>cond (Nat.beq g g') (some (gr&&Nat.beq n 0)) none
     | _=>none)
   | _=>none) none
 | .c .nilFunc=>cond (qWY P t) (match x with
   | .fn _ _ _=>some false
   | _=>none) none
 | _=>none
theorem qVR (ho:OkH P h)(hx:x.ok h)(e:zEJ P t x y h=some b):qFB P t x.enc y.enc (qC h.l)=some b∧pl x.enc=none:=by
 unfold zEJ at e;split at e
 ·rename_i n c
  cases h1:(zS P t).isSome with
  | false=>rw[h1] at e;cases e
  | true =>
    rw[h1] at e;simp only[cond_true] at e;split at e
    ·rename_i k g n;split at e
     ·rename_i el gr g' w u xs hk
      cases h2:Nat.beq g g' with
      | false=>rw[h2] at e;cases e
      | true =>
        rw[h2] at e;cases e;have hg:g=g':=zPL h2;subst hg;simp only[SV.ok] at hx;have hn:=hx.2 _ _ _ _ _ hk;have hl:=ho.list _ _ _ _ _ _ _ hk;refine⟨?_,by simp[SV.enc,pl]⟩;simp only[SV.enc,fvv,qFB,h1,cond_true,isNil,zN hk];rw[show (SO.list el gr g w u xs).enc.el=el from rfl,hl.2.1];simp only[qV,hn,aI,cond_true];rfl
     ·cases e
    ·rename_i k g n o m;split at e
     ·rename_i el gr g' w u xs hk
      cases h2:Nat.beq g g' with
      | false=>rw[h2] at e;cases e
      | true =>
        rw[h2] at e;cases e;have hg:g=g':=zPL h2;subst hg;simp only[SV.ok] at hx;have hn:=hx.1.2 _ _ _ _ _ hk;have hl:=ho.list _ _ _ _ _ _ _ hk;refine⟨?_,by simp[SV.enc,pl]⟩;simp only[SV.enc,fvv,qFB,h1,cond_true,isNil,zN hk];rw[show (SO.list el gr g w u xs).enc.el=el from rfl,hl.2.1];simp only[qV,hn,aI,cond_true];rfl
     ·cases e
    ·cases e
 ·cases h1:qWY P t with
  | false=>rw[h1] at e;cases e
  | true =>
    rw[h1] at e;simp only[cond_true] at e;split at e
    ·cases e;exact⟨by simp[SV.enc,fvv,qFB,h1,qQ4],by simp[SV.enc,pl]⟩
    ·cases e
 ·cases e
def q9B (P:Program)(t:TypeId)(x y:SV):Option Bool:=match x,y with
 | .d (.ol _ _) xs,.c (.slice none 0 0)=>cond (zS P t).isSome (some (List.isEmpty xs)) none
 | _,_=>none
theorem qPV (e:q9B P t x y=some b):wR P .eql t t2 x.enc y.enc ph=some (fvv (.bool b))∧wR P .neq t t2 x.enc y.enc ph=some (fvv (.bool !b)):=by
 unfold q9B at e;split at e
 ·rename_i el k xs
  cases h1:(zS P t).isSome with
  | false=>rw[h1] at e;cases e
  | true =>
    rw[h1] at e;cases e
    cases xs with
    | nil =>
      have hn:qFB P t (fvv (.slice none 0 0)) (fvv (.slice none 0 0)) ph=some true:=by simp only[qFB,fvv,h1,cond_true,isNil]
      have hv:∀ H,VR P (fun _=>True) H (own (fun _=>0) ph) (fvv (.slice none 0 0)) (.slice none 0 0):=fun H=>.f (.v rfl rfl)
      constructor
      ·have:=(qIG (op:=.eql) (o:=cop (.binOp .eql t (.const (.slice none 0 0)) (.const (.slice none 0 0)) t2)) (env:=[]) (hv H00) (hv H00) hn).1;simp only[SV.enc,Ty.fv,fvo];show wR P .eql t t2 (fvv (.slice none 0 0)) (fvv (.slice none 0 0)) ph=_;unfold wR;rw[show pl (fvv (.slice none 0 0))=some (.slice none 0 0) from rfl];simp only[this];rfl
      ·have:=(qIG (op:=.neq) (o:=cop (.binOp .neq t (.const (.slice none 0 0)) (.const (.slice none 0 0)) t2)) (env:=[]) (hv H00) (hv H00) hn).2;simp only[SV.enc,Ty.fv,fvo];show wR P .neq t t2 (fvv (.slice none 0 0)) (fvv (.slice none 0 0)) ph=_;unfold wR;rw[show pl (fvv (.slice none 0 0))=some (.slice none 0 0) from rfl];simp only[this];rfl
    | cons x xs =>
      have hn:qFB P t (.f (fvo el k (x::xs))) (fvv (.slice none 0 0)) ph=some false:=by
       simp only[qFB,fvv,h1,cond_true,fvo,zQC,zRM,isNil]
      constructor
      ·simp only[SV.enc,Ty.fv];show uW P t (.f (fvo el k (x::xs))) (fvv (.slice none 0 0)) ph _=_;unfold uW;rw[hn];rfl
      ·simp only[SV.enc,Ty.fv];show uW P t (.f (fvo el k (x::xs))) (fvv (.slice none 0 0)) ph _=_;unfold uW;rw[hn];rfl
 ·cases e
def q7J (P:Program)(t:TypeId)(x y:SV):Option Bool:=match x,y with
 | .d (.list _ u) xs,.c (.slice none 0 0)=>cond ((zS P t).isSome&&Nat.blt 0 u.w) (some (List.isEmpty xs)) none
 | _,_=>none
theorem qA4 (e:q7J P t x y=some b) :
 (b=true->wR P .eql t t2 x.enc y.enc ph=some .bq∧wR P .neq t t2 x.enc y.enc ph=some .bq)∧(b=false->wR P .eql t t2 x.enc y.enc ph=some (fvv (.bool false))∧wR P .neq t t2 x.enc y.enc ph=some (fvv (.bool true))):=by
 unfold q7J at e;split at e
 case h_2=>cases e
 rename_i el u xs
 cases h1:((zS P t).isSome&&Nat.blt 0 u.w) with
 | false=>rw[h1] at e;cases e
 | true =>
   rw[h1] at e;cases e;rw[zPK] at h1;obtain⟨h1,h2⟩:=h1;have h2:0 < u.w:=zPU h2
   cases xs with
   | nil =>
     have hq:qS8 P t (.f (.l el 0 [])) (fvv (.slice none 0 0))=some .bq:=by simp only[qS8,fvv,h1,cond_true]
     have hn:qFB P t (.f (.l el 0 [])) (fvv (.slice none 0 0)) ph=none:=by simp only[qFB,fvv,h1,cond_true,isNil]
     refine⟨fun _=>?_,fun h=>(by cases h)⟩;simp only[SV.enc,Ty.fv,List.flatMap_nil,zS8];constructor
     ·show uW P t (.f (.l el 0 [])) (fvv (.slice none 0 0)) ph _=_;unfold uW;rw[hn];exact hq
     ·show uW P t (.f (.l el 0 [])) (fvv (.slice none 0 0)) ph _=_;unfold uW;rw[hn];exact hq
   | cons x xs =>
     refine⟨fun h=>(by cases h),fun _=>?_⟩
     obtain⟨c,cs,hcs⟩:∃ c cs,List.flatMap u.cells (x::xs)=c::cs:=by
      cases hf:List.flatMap u.cells (x::xs) with
      | nil =>
        have:=congrArg List.length hf;rw[zW,zP5,zSD] at this;simp at this;omega
      | cons c cs=>exact⟨c,cs,rfl⟩
     have hn:qFB P t (.f (.l el (xs.length+1) (c::cs))) (fvv (.slice none 0 0)) ph=some false:=by simp only[qFB,fvv,h1,cond_true,isNil]
     simp only[SV.enc,Ty.fv,hcs,zP5];constructor
     ·show uW P t (.f (.l el (xs.length+1) (c::cs))) (fvv (.slice none 0 0)) ph _=_;unfold uW;rw[hn]
     ·show uW P t (.f (.l el (xs.length+1) (c::cs))) (fvv (.slice none 0 0)) ph _=_;unfold uW;rw[hn];rfl
def q5Y (P:Program)(op:BinOp)(t t2 ty:TypeId)(x y:SV)(h:SH)(K:SV->zF6 R):zF6 R:=match zEJ P t x y h,op with
 | some b,.eql=>K (.d .bool b)
 | some b,.neq=>K (.d .bool (!b))
 | _,_=>qTU P op t t2 ty x y K
def q6G (P:Program)(op:BinOp)(t t2 ty:TypeId)(x y:SV)(h:SH)(K:SV->zF6 R):zF6 R:=match q7J P t x y,op with
 | some b,.eql=>.ite b (K .bq) (K (.d .bool false))
 | some b,.neq=>.ite b (K .bq) (K (.d .bool true))
 | _,_=>q5Y P op t t2 ty x y h K
def zDR (P:Program)(op:BinOp)(t t2 ty:TypeId)(x y:SV)(h:SH)(K:SV->zF6 R):zF6 R:=match asI x,asI y with
 | some (k,a),some (k',b)=>cond (decide (k=k')) (sint op k a b K (qTU P op t t2 ty x y K)) (qTU P op t t2 ty x y K)
 | _,_=>(match asS x,asS y with
   | some a,some b=>zFA op a b K (qTU P op t t2 ty x y K)
   | _,_=>(match q9B P t x y,op with
     | some b,.eql=>K (.d .bool b)
     | some b,.neq=>K (.d .bool (!b))
     | _,_=>q6G P op t t2 ty x y h K))
theorem qAT {K:SV->zF6 R}(e:(qTU P op t t2 ty x y K).run=some r):∃ v,wR P op t t2 x.enc y.enc (qC h.l)=some v.enc∧v.ok h∧(K v).run=some r:=by
 unfold qTU at e;split at e
 ·rename_i a b u ha hb hu;obtain⟨z,hz,e1⟩:=run_bind e;refine⟨_,?_,by simp[SV.ok],e1⟩;rw[q6S (wO ha) (wO hb)];exact qQE hz
 ·cases e
theorem q2K {K:SV->zF6 R}(ho:OkH P h)(hx:x.ok h)(e:(q5Y P op t t2 ty x y h K).run=some r):∃ v,wR P op t t2 x.enc y.enc (qC h.l)=some v.enc∧v.ok h∧(K v).run=some r:=by
 unfold q5Y at e;split at e
 ·rename_i b hs;obtain⟨h1,h2⟩:=qVR ho hx hs;refine⟨_,?_,by simp[SV.ok],e⟩;unfold wR;rw[h2];simp[uW,h1,SV.enc,Ty.fv,fvv]
 ·rename_i b hs;obtain⟨h1,h2⟩:=qVR ho hx hs;refine⟨_,?_,by simp[SV.ok],e⟩;unfold wR;rw[h2];simp[uW,h1,SV.enc,Ty.fv,fvv]
 ·exact qAT e
theorem q2A {K:SV->zF6 R}(ho:OkH P h)(hx:x.ok h)(e:(q6G P op t t2 ty x y h K).run=some r):∃ v,wR P op t t2 x.enc y.enc (qC h.l)=some v.enc∧v.ok h∧(K v).run=some r:=by
 unfold q6G at e;split at e
 ·rename_i b hs
  rcases run_ite e with ⟨z,e1⟩ | ⟨z,e1⟩
  ·exact⟨.bq,by rw[((qA4 hs).1 z).1];simp[SV.enc],by simp[SV.ok],e1⟩
  ·exact⟨.d .bool false,by rw[((qA4 hs).2 z).1];simp[SV.enc,Ty.fv,fvv],by simp[SV.ok],e1⟩
 ·rename_i b hs
  rcases run_ite e with ⟨z,e1⟩ | ⟨z,e1⟩
  ·exact⟨.bq,by rw[((qA4 hs).1 z).2];simp[SV.enc],by simp[SV.ok],e1⟩
  ·exact⟨.d .bool true,by rw[((qA4 hs).2 z).2];simp[SV.enc,Ty.fv,fvv],by simp[SV.ok],e1⟩
 ·exact q2K ho hx e
theorem q8I {K:SV->zF6 R}(ho:OkH P h)(hx:x.ok h)(e:(zDR P op t t2 ty x y h K).run=some r):∃ v,wR P op t t2 x.enc y.enc (qC h.l)=some v.enc∧v.ok h∧(K v).run=some r:=by
 unfold zDR at e;split at e
 ·rename_i k a k' b ha hb
  cases hk:decide (k=k') with
  | false=>rw[hk] at e;exact qAT e
  | true =>
    rw[hk] at e;have hkk:k=k':=by simpa using hk
    subst hkk;simp only[cond_true] at e;have ha':=yD ha;have hb':=yD hb
    have fin:∀ {v:SV},wR P op t t2 (fvv (.int k a)) (fvv (.int k b)) (qC h.l)=some v.enc->v.ok h->(K v).run=some r->∃ v,wR P op t t2 x.enc y.enc (qC h.l)=some v.enc∧v.ok h∧(K v).run=some r:=fun h1 h2 h3=>⟨_,by rw[ha',hb'];exact h1,h2,h3⟩
    unfold sint at e;split at e
    ·exact fin (v:=.d .bool (decide (a < b))) q9W (by simp[SV.ok]) e
    ·exact fin (v:=.d .bool (decide (a<=b))) zCI (by simp[SV.ok]) e
    ·exact fin (v:=.d .bool (decide (b < a))) zAW (by simp[SV.ok]) e
    ·exact fin (v:=.d .bool (decide (b<=a))) q97 (by simp[SV.ok]) e
    ·exact fin (v:=.d .bool (a==b)) zAG (by simp[SV.ok]) e
    ·exact fin (v:=.d .bool (a != b)) zBW (by simp[SV.ok]) e
    ·exact fin (v:=.d (.int k) (k.wrap (a+b))) zAP (by simp[SV.ok]) e
    ·exact fin (v:=.d (.int k) (k.wrap (a - b))) zA3 (by simp[SV.ok]) e
    ·exact fin (v:=.d (.int k) (k.wrap (a*b))) zAM (by simp[SV.ok]) e
    ·obtain⟨c,hc,e1⟩:=run_bind e;exact fin (v:=.d (.int k) c) (zCM hc) (by simp[SV.ok]) e1
    ·obtain⟨c,hc,e1⟩:=run_bind e;exact fin (v:=.d (.int k) c) (zAI hc) (by simp[SV.ok]) e1
    ·exact qAT e
 ·split at e
  ·rename_i a b ha hb;have ha':=fU ha;have hb':=fU hb;unfold zFA at e;split at e
   ·rcases run_ite e with ⟨z,e1⟩ | ⟨z,e1⟩
    ·exact⟨.d .str (a++b),by rw[ha',hb',q74 (zPU z)];simp[SV.enc,Ty.fv,fvv],by simp[SV.ok],e1⟩
    ·cases e1
   ·exact⟨.d .bool (a.toList==b.toList),by rw[ha',hb',q7S];simp[SV.enc,Ty.fv,fvv],by simp[SV.ok],e⟩
   ·exact⟨.d .bool (!(a.toList==b.toList)),by rw[ha',hb',q8G];simp[SV.enc,Ty.fv,fvv],by simp[SV.ok],e⟩
   ·exact qAT e
  split at e
  ·rename_i b hs;exact⟨_,by rw[(qPV hs).1];simp[SV.enc,Ty.fv,fvv],by simp[SV.ok],e⟩
  ·rename_i b hs;exact⟨_,by rw[(qPV hs).2];simp[SV.enc,Ty.fv,fvv],by simp[SV.ok],e⟩
  exact q2A ho hx e
def qYL (P:Program)(mk:Operand->Op)(ty:TypeId)(x:SV)(K:SV->zF6 R):zF6 R:=match qFK x,qDK P 8 ty with
 | some a,some u=>.bind (u.zJ0 (bU P mk (fvv a))) fun z=>K (.d u z)
 | _,_=>.fail
theorem qQZ {mk:Operand->Op}{K:SV->zF6 R}(e:(qYL P mk ty x K).run=some r):∃ v,bU P mk x.enc=some v.enc∧v.ok h∧(K v).run=some r∧∃ a,qFK x=some a:=by
 unfold qYL at e;split at e
 ·rename_i a u ha hu;obtain⟨z,hz,e1⟩:=run_bind e;exact⟨_,by rw[sH ha];exact qQE hz,by simp[SV.ok],e1,a,ha⟩
 ·cases e
def sun (P:Program)(op:UnOp)(t ty:TypeId)(x:SV)(K:SV->zF6 R):zF6 R:=match op,asI x,asB x with
 | .neg,some (k,a),_=>K (.d (.int k) (k.wrap (0 - a)))
 | .not,_,some b=>K (.d .bool (!b))
 | _,_,_=>qYL P (fun a=>.unOp op t a) ty x K
omit [Yl] in
theorem q8X {x:Int}:bU P (fun a=>.unOp .neg t a) (fvv (.int k x))=some (fvv (.int k (k.wrap (0 - x)))):=rfl
theorem zCH {op:UnOp}{K:SV->zF6 R}(e:(sun P op t ty x K).run=some r):∃ v,bU P (fun a=>.unOp op t a) x.enc=some v.enc∧v.ok h∧(K v).run=some r:=by
 unfold sun at e;split at e
 ·rename_i k a ha;exact⟨_,by rw[yD ha,q8X];simp[SV.enc,Ty.fv,fvv],by simp[SV.ok],e⟩
 ·rename_i b hb;exact⟨_,by rw[sS hb,zBT];simp[SV.enc,Ty.fv,fvv],by simp[SV.ok],e⟩
 ·obtain⟨v,h1,h2,h3,_⟩:=qQZ (h:=h) e;exact⟨v,h1,h2,h3⟩
def eP (env:List SV)(l:Array Operand):List SV:=l.toList.map (kE env)
theorem gT (env:List SV)(l:Array Operand):l.toList.map (qK (qB env))=qB (eP env l):=by
 unfold eP;rw[zH (l.toList.map (kE env)),zRR];exact zQ5 fun x _=>qO env x
omit [Yl] in
theorem fD (ho:okL h env)(l:Array Operand):okL h (eP env l):=zL.2 fun x hx=>by
 obtain⟨q,_,rfl⟩:=zQB.1 hx;exact nD ho _
def smm (lo:Bool)(x y:SV)(K:SV->zF6 R):zF6 R:=match asI x,asI y with
 | some (k,a),some (k',b)=>cond (decide (k=k')) (K (.d (.int k) (cond lo (cond (decide (b < a)) b a) (cond (decide (a < b)) b a)))) .fail
 | _,_=>.fail
omit [Yl] in
theorem dmin {x y:Operand}{b:Int}{env:Env}(hx:env.val x=.int k a)(hy:env.val y=.int k b) :
 qUU (jE P (cop (.call ⟨.builtin .min,#[x,y],ts⟩) ty) env H00)=some (fvv (.int k (if b < a then b else a))):=by
 have h2:kY env.val (cop (.call ⟨.builtin .min,#[x,y],ts⟩) ty).op.operands.toList=[env.val x,env.val y]:=rfl;unfold jE;rw[h2];simp only[cop,execOp,resolve,List.map_toArray,zP3,zRS,hx,hy];rfl
omit [Yl] in
theorem dmax {x y:Operand}{b:Int}{env:Env}(hx:env.val x=.int k a)(hy:env.val y=.int k b) :
 qUU (jE P (cop (.call ⟨.builtin .max,#[x,y],ts⟩) ty) env H00)=some (fvv (.int k (if a < b then b else a))):=by
 have h2:kY env.val (cop (.call ⟨.builtin .max,#[x,y],ts⟩) ty).op.operands.toList=[env.val x,env.val y]:=rfl;unfold jE;rw[h2];simp only[cop,execOp,resolve,List.map_toArray,zP3,zRS,hx,hy];rfl
omit [Yl] in
theorem qY5 {p:Prop}[Decidable p]{α:Type}{x y:α}:cond (decide p) x y=if p then x else y:=by
 by_cases h:p <;> simp[h]
theorem q5W {lo:Bool}{c:Call}{K:SV->zF6 R}(hl:eP env c.args=[x,y])(hc:c.callee=.builtin (cond lo .min .max))(e:(smm lo x y K).run=some r) :
 ∃ v,vZ P (cond lo .min .max) c [x.enc,y.enc] (qB env) ty (qC h.l)=some (v.enc,qC h.l)∧v.ok h∧(K v).run=some r:=by
 unfold smm at e;split at e
 ·rename_i k a k' b ha hb
  cases hk:decide (k=k') with
  | false=>rw[hk] at e;cases e
  | true =>
    rw[hk] at e;have:k=k':=by simpa using hk
    subst this;have e1:=yD ha;have e2:=yD hb;refine⟨_,?_,by simp[SV.ok],e⟩;obtain⟨cal,args,ts⟩:=c;simp only at hc hl;subst hc;unfold eP at hl
    have hal:∃ p q,args=#[p,q]∧kE env p=x∧kE env q=y:=by
     obtain⟨l⟩:=args
     match l,hl with
     | [p,q],hl=>simp at hl;exact⟨p,q,rfl,hl.1,hl.2⟩
    obtain⟨p,q,rfl,hp,hq⟩:=hal;have vp:(qTM (qB env)).val p=.int k a:=bW P (by rw[qO,hp,e1];rfl);have vq:(qTM (qB env)).val q=.int k b:=bW P (by rw[qO,hq,e2];rfl);unfold vZ;rw[e1,e2];have hpl:plL [fvv (.int k a),fvv (.int k b)]=some [.int k a,.int k b]:=rfl;rw[hpl]
    cases lo with
    | true =>
      simp only[cond_true];rw[dmin vp vq,qY5];simp[pp1,SV.enc,Ty.fv,fvv]
    | false =>
      simp only[cond_false];rw[dmax vp vq,qY5];simp[pp1,SV.enc,Ty.fv,fvv]
 ·cases e
def q75 (P:Program)(ts:Array TypeId)(x:SV)(h:SH):Option SV:=match tT P x.enc (qC h.l) with
 | some _=>none
 | none=>zDL P ts x h
theorem q3Q {v:SV}(ho:OkH P h)(hx:x.ok h)(e:q75 P ts x h=some v):qD6 P ts x.enc (qC h.l)=some v.enc∧v.ok h:=by
 unfold q75 at e;split at e
 ·cases e
 ·rename_i hn;unfold qD6;rw[hn];exact q6N ho hx e
theorem qTN {lo hi:Option Operand}{K:SV->zF6 R}(e:(qUL P t s (lo.map (kE env)) (hi.map (kE env)) K).run=some r) :
 ∃ v,qOE P (.slice t (.const (.string s)) (lo.map fun a=>.const ((pl (qK (qB env) a)).getD undef)) (hi.map fun a=>.const ((pl (qK (qB env) a)).getD undef)) none)=some v.enc∧v.ok h∧(K v).run=some r∧(plL ((lo.toList++hi.toList).map (qK (qB env)))).isSome=true:=by
 obtain⟨c,e1⟩:=qE e;obtain⟨b,hb,_,e2⟩:=vS e1;obtain⟨a,ha,_,e3⟩:=vS e2;have m:∀ o:Option Operand,(o.map (kE env)).map SV.enc=o.map (qK (qB env)):=fun o=>by cases o <;> simp[qO]
 rw[m] at hb ha;refine⟨.d .str (s.extract a b),by rw[q0P (qF0 c) hb ha];simp[SV.enc,Ty.fv,fvv],by simp[SV.ok],e3,?_⟩
 have one:∀ {o:Option Operand} {d most n:Nat},bnd d most (o.map (qK (qB env)))=some n->o=none∨∃ a k i,o=some a∧qK (qB env) a=fvv (.int k i):=fun {o d most n} h=>by
  rcases qV5 h with ⟨q,_⟩ | ⟨k,i,q,_⟩
  ·cases o with
   | none=>exact .inl rfl
   | some a=>cases q
  ·cases o with
   | none=>cases q
   | some a=>exact .inr ⟨a,k,i,rfl,by simpa using q⟩
 rcases one hb with rfl | ⟨x,k,i,rfl,hx⟩ <;> rcases one ha with rfl | ⟨y,k',i',rfl,hy⟩ <;> simp_all [plL,fvv,pl]
theorem qSI {ix:SV}{K:SV->zF6 R}(e:(qOZ P t s ix K).run=some r) :
 ∃ v k i,ix.enc=fvv (.int k i)∧qOE P (.index t (.const (.string s)) (.const (.int k i)))=some v.enc∧v.ok h∧(K v).run=some r:=by
 unfold qOZ at e;split at e
 ·rename_i k i hi;obtain⟨c,e1⟩:=qE e;obtain⟨b,hb,e2⟩:=run_bind e1;exact⟨.d (.int .u8) b,k,i,yD hi,by rw[q1A (qF0 c) hb];simp[SV.enc,Ty.fv,fvv],by simp[SV.ok],e2⟩
 ·cases e
theorem q3C {s d:TypeId}{K:SV->zF6 R}{F:zF6 R}(e:(q27 P s d x K F).run=some r):(∃ v,bU P (fun a=>.convert s d a) x.enc=some v.enc∧v.ok h∧(K v).run=some r)∨F.run=some r:=by
 unfold q27 at e;split at e
 ·rename_i u k' hs hd;split at e
  ·rename_i k a ha;exact .inl ⟨_,by rw[yD ha,q7V hs hd];simp[SV.enc,Ty.fv,fvv],by simp[SV.ok],e⟩
  ·exact .inr e
 ·rename_i u hs hd;split at e
  ·rename_i a ha;exact .inl ⟨_,by rw[fU ha,q0K hs hd];simp[SV.enc,Ty.fv,fvv],by simp[SV.ok],e⟩
  ·exact .inr e
 ·exact .inr e
def qJ3 (env:List SV)(parts:Array (Nat×Operand)):List (Nat×SV):=parts.toList.map fun p=>(p.1,kE env p.2)
theorem qEQ (env:List SV)(parts:Array (Nat×Operand)):(parts.toList.map fun p=>(p.1,qK (qB env) p.2))=q9D (qJ3 env parts):=by
 simp[qJ3,q9D,qO]
omit [Yl] in
theorem qK8 {env:List SV}(ho:okL h env)(parts:Array (Nat×Operand)):∀ p∈qJ3 env parts,p.2.ok h:=fun p hp=>by
 obtain⟨q,_,rfl⟩:=zQB.1 hp;exact nD ho _
def qYW:Operand->Operand->Bool
 | .tmp i,.tmp j=>Nat.beq i j
 | .const (.int k a),.const (.int k' b)=>decide (k=k')&&decide (a=b)
 | _,_=>false
omit [Yl] in
theorem qW1 {a b:Operand}(e:qYW a b=true):a=b:=by
 unfold qYW at e;split at e
 ·rw[zPL e]
 ·rw[zPK] at e;have h1:=of_decide_eq_true e.1;have h2:=of_decide_eq_true e.2;rw[h1,h2]
 ·cases e
def gv (o:Option SV)(h:SH)(K:SV->SH->zF6 R):zF6 R:=match o with
 | some v=>K v h
 | none=>.fail
def sop (P:Program)(o:Oper)(env:List SV)(k:Nat)(h:SH)(K:SV->SH->zF6 R):zF6 R:=match o.op with
 | .move x=>K (kE env x) h
 | .assign x=>K (kE env x) h
 | .pick c a b=>(match asB (kE env c) with
   | some t=>.ite t (K (kE env a) h) (K (kE env b) h)
   | none=>.fail)
 | .alloc el=>qUF P el k h K
 | .box el x=>zFB P el (kE env x) k h K
 | .build t parts=>gv (qWL P t (qJ3 env parts)) h K
 | .buildSlice t len parts=>nL P t len (qJ3 env parts) k h K
 | .load t a=>q64 P t (kE env a) h fun v=>K v h
 | .store t a x=>qWN P t (kE env a) (kE env x) h K
 | .nilCheck x=>gv (qBD (kE env x) h) h K
 | .binOp op t x y t2=>zDR P op t t2 o.type (kE env x) (kE env y) h fun v=>K v h
 | .unOp op t x=>sun P op t o.type (kE env x) fun v=>K v h
 | .convert s d x=>cond (qSJ (kE env x).enc) .fail (q27 P s d (kE env x) (fun v=>K v h) (qYL P (fun a=>.convert s d a) o.type (kE env x) fun v=>K v h))
 | .makeFunc fn first cap=>gv (qBY fn (eP env first) (eP env cap)) h K
 | .makeSlice t l c=>cond (qYW l c) (q65 P t (kE env l) k h K) .fail
 | .slice t x lo hi none=>(match asS (kE env x) with
   | some s=>qUL P t s (lo.map (kE env)) (hi.map (kE env)) fun v=>K v h
   | none=>qZC P t (kE env x) (lo.map (kE env)) (hi.map (kE env)) h fun v=>K v h)
 | .fieldAddr t x i=>gv (rF P t (kE env x) i h) h K
 | .indexAddr t x ix=>sP P t (kE env x) (kE env ix) h fun v=>K v h
 | .index t x ix=>(match asS (kE env x) with
   | some s=>qOZ P t s (kE env ix) fun v=>K v h
   | none=>qVO P t (kE env x) (kE env ix) fun v=>K v h)
 | .extract t i=>gv (qGJ (kE env t) i) h K
 | .makeMap _ none=>qRP P k h K
 | .lookup t m kx ok=>qNA P t (kE env m) (kE env kx) ok h fun v=>K v h
 | .mapUpdate t m kx x=>rR P t (kE env m) (kE env kx) (kE env x) h K
 | .mapEntry t m kx=>qBN P t (kE env m) (kE env kx) h K
 | .call c=>(match c.callee,eP env c.args with
   | .builtin .append,[x,y]=>q7H P c.argTypes.toList x y k h K
   | .builtin .copy,[x,y]=>q55 P c.argTypes.toList x y h K
   | .builtin .len,[x]=>cond (qZ4 P c.argTypes) (match asS x with
     | some s=>K (.d (.int .i64) (s.size:Int)) h
     | none=>.fail) (match q66 P c.argTypes x h with
     | some v=>K v h
     | none=>gv (q75 P c.argTypes x h) h K)
   | .builtin .min,[x,y]=>smm true x y fun v=>K v h
   | .builtin .max,[x,y]=>smm false x y fun v=>K v h
   | _,_=>.fail)
 | _=>.fail
omit [Yl] in
theorem qTF {o:Option SV}{K:SV->SH->zF6 R}(e:(gv o h K).run=some r):∃ v,o=some v∧(K v h).run=some r:=by
 unfold gv at e;split at e
 ·exact⟨_,rfl,e⟩
 ·cases e
theorem q47 {k:Nat}{K:SV->SH->zF6 R}(ho:OkH P h)(he:okL h env)(e:(sop P o env k h K).run=some r) :
 ∃ v h',rG P o (qB env) k (qC h.l)=some (v.enc,qC h'.l)∧Post P h h' v∧(K v h').run=some r:=by
 have same:∀ {v:SV},v.ok h->Post P h h v:=fun hv=>⟨.refl _,ho,hv⟩
 have sv:=fun x=>nD (h:=h) he x
 unfold sop at e;unfold rG;split at e
 ·rename_i x ho';exact⟨_,_,by simp only[ho',qO],same (sv x),e⟩
 ·rename_i x ho';exact⟨_,_,by simp only[ho',qO],same (sv x),e⟩
 ·rename_i c a b ho';split at e
  ·rename_i t ht;have h1:=sS ht
   rcases run_ite e with ⟨z,e1⟩ | ⟨z,e1⟩
   ·exact⟨_,_,by simp only[ho',qO,h1,fvv,z,cond_true],same (sv a),e1⟩
   ·exact⟨_,_,by simp only[ho',qO,h1,fvv,z,cond_false],same (sv b),e1⟩
  ·cases e
 ·rename_i el ho';rw[ho'];exact qZT ho e
 ·rename_i el x ho';rw[ho'];simp only[qO];exact q88 ho (sv x) e
 ·rename_i t parts ho';rw[ho'];obtain⟨v,h1,h2⟩:=qTF e;have h3:=qXN (qK8 he parts) h1;exact⟨v,h,by simp only[qEQ,h3.1,pp1],same h3.2,h2⟩
 ·rename_i t len parts ho';rw[ho'];simp only[qEQ];exact qD4 ho (qK8 he parts) e
 ·rename_i t a ho';rw[ho'];obtain⟨v,h1,h2,h3⟩:=q09 ho (sv a) e;exact⟨v,h,by simp only[qO,h1,pp1],same h2,h3⟩
 ·rename_i t a x ho';rw[ho'];obtain⟨h',h1,h2,h3,h4⟩:=qT9 ho (sv a) (sv x) e;exact⟨_,h',by simp only[qO,h1,ppS];simp[SV.enc,qB],⟨h2,h3,by simp[SV.ok,okL]⟩,h4⟩
 ·rename_i x ho';rw[ho'];obtain⟨v,h1,h2⟩:=qTF e;have h3:=qK3 (sv x) h1;exact⟨v,h,by simp only[qO,h3.1,pp1],same h3.2,h2⟩
 ·rename_i op t x y t2 ho';rw[ho'];obtain⟨v,h1,h2,h3⟩:=q8I ho (sv x) e;exact⟨v,h,by simp only[qO,h1,pp1],same h2,h3⟩
 ·rename_i op t x ho';rw[ho'];obtain⟨v,h1,h2,h3⟩:=zCH (h:=h) e;exact⟨v,h,by simp only[qO,h1,pp1],same h2,h3⟩
 ·rename_i s d x ho';rw[ho']
  cases hp:qSJ (kE env x).enc with
  | true=>rw[hp] at e;cases e
  | false =>
    rw[hp] at e;have e1:(q27 P s d (kE env x) (fun v=>K v h) (qYL P (fun a=>.convert s d a) o.type (kE env x) fun v=>K v h)).run=some r:=e;rcases q3C (h:=h) e1 with ⟨v,h1,h2,h3⟩ | e1
    ·exact⟨v,h,by simp only[qO,hp,cond_false,h1,pp1],same h2,h3⟩
    ·obtain⟨v,h1,h2,h3,_⟩:=qQZ (h:=h) e1;exact⟨v,h,by simp only[qO,hp,cond_false,h1,pp1],same h2,h3⟩
 ·rename_i fn first cap ho'
  rw[ho'];obtain⟨v,h1,h2⟩:=qTF e;have h3:=qJX (fD he first) (fD he cap) h1;exact⟨v,h,by simp only[gT,h3.1,pp1],same h3.2,h2⟩
 ·rename_i t l c ho';rw[ho'];obtain⟨h1,h2⟩:=qE e;have:=qW1 h1;subst this;simp only[qO];exact q2B ho h2
 ·rename_i t x lo hi ho';rw[ho'];split at e
  ·rename_i s hs;obtain⟨v,h1,h2,h3,h4⟩:=qTN (h:=h) e;obtain⟨vs,hvs⟩:=zQO.1 h4;refine⟨v,h,?_,same h2,h3⟩;have hx:qK (qB env) x=.f (.v (.string s)):=by rw[qO];exact fU hs
   simp only[hx,hvs,h1,pp1]
  obtain⟨v,h1,h2,h3⟩:=qVP ho (sv x) e;refine⟨v,h,?_,same h2,h3⟩;have m:∀ o:Option Operand,o.map (qK (qB env))=(o.map (kE env)).map SV.enc:=fun o=>by cases o <;> simp[qO]
  simp only[qO,m]
  have ns:∀ s,(kE env x).enc≠.f (.v (.string s)):=fun s hs=>by
   rw[hs] at h1;simp only[wX] at h1;cases h1
  split
  ·rename_i s hs;exact absurd hs (ns s)
  ·rw[h1];rfl
 ·rename_i t x i ho';rw[ho'];obtain⟨v,h1,h2⟩:=qTF e;have h3:=qF7 (sv x) h1;exact⟨v,h,by simp only[qO,h3.1,pp1],same h3.2,h2⟩
 ·rename_i t x ix ho';rw[ho'];obtain⟨v,h1,h2,h3⟩:=qHH ho (sv x) e;exact⟨v,h,by simp only[qO,h1,pp1],same h2,h3⟩
 ·rename_i t x ix ho';rw[ho'];split at e
  ·rename_i s hs;obtain⟨v,k',i,h0,h1,h2,h3⟩:=qSI (h:=h) e;refine⟨v,h,?_,same h2,h3⟩;have hx:=fU hs;have hpl:pl (fvv (.int k' i))=some (.int k' i):=rfl;simp only[qO,hx,h0,hpl];simp only[fvv,h1,pp1]
  obtain⟨v,h1,h2,h3,l,hl⟩:=qXG (sv x) e;refine⟨v,h,?_,same h2,h3⟩;simp only[qO];rw[hl] at h1 ⊢;simp only[SV.enc] at h1 ⊢;rw[h1];rfl
 ·rename_i t i ho';rw[ho'];obtain⟨v,h1,h2⟩:=qTF e;have h3:=qOG (sv t) h1;exact⟨v,h,by simp only[qO,h3.1,pp1],same h3.2,h2⟩
 ·rename_i ho';rw[ho'];exact qMW ho e
 ·rename_i t m kx ok ho';rw[ho'];obtain⟨v,h1,h2,h3⟩:=qSH e;exact⟨v,h,by simp only[qO,h1,pp1],same h2,h3⟩
 ·rename_i t m kx x ho';rw[ho'];obtain⟨h',h1,h2,h3,h4⟩:=qG0 ho e;exact⟨_,h',by simp only[qO,h1,ppS];simp[SV.enc,qB],⟨h2,h3,by simp[SV.ok,okL]⟩,h4⟩
 ·rename_i t m kx ho';rw[ho'];simp only[qO];exact qKV ho e
 ·rename_i c ho';rw[ho'];have ha:=gT env c.args;have hao:=fD he c.args;split at e
  ·rename_i x y hc hl;rw[hl] at ha hao;simp only[okL] at hao;simp only[hc,ha,qB,uQ];exact q3B ho hao.1 hao.2.1 e
  ·rename_i x y hc hl;rw[hl] at ha hao;simp only[okL] at hao;simp only[hc,ha,qB,uQ];exact q1M ho hao.1 hao.2.1 e
  ·rename_i x hc hl;rw[hl] at ha hao;simp only[okL] at hao
   cases hst:qZ4 P c.argTypes with
   | true =>
     rw[hst] at e;simp only[cond_true] at e;split at e
     ·rename_i s hs;refine⟨_,h,?_,same (by simp[SV.ok]),e⟩;obtain⟨cal,args,ts⟩:=c;simp only at hc hl hst;subst hc
      obtain⟨p,rfl,hp⟩:∃ p,args=#[p]∧kE env p=x:=by
       unfold eP at hl;obtain⟨l⟩:=args
       match l,hl with
       | [p],hl=>simp at hl;exact⟨p,rfl,hl⟩
      have vp:(qTM (qB env)).val p=.string s:=bW P (by rw[qO,hp,fU hs];rfl);simp only[uQ,ha,qB,hst,cond_true];unfold vZ;have hpl:plL [x.enc]=some [.string s]:=by rw[fU hs];rfl
      rw[hpl];simp only;rw[qQ5 hst vp];simp[pp1,SV.enc,Ty.fv,fvv]
     ·cases e
   | false =>
     rw[hst] at e;simp only[cond_false] at e;split at e
     ·rename_i v hv;have h3:=q05 hv;refine⟨v,h,?_,same h3.2,e⟩;simp only[hc,ha,qB,uQ,hst,cond_false,h3.1,pp1]
     obtain⟨v,h1,h2⟩:=qTF e;have h3:=q3Q ho hao.1 h1;refine⟨v,h,?_,same h3.2,h2⟩;simp only[hc,ha,qB,uQ,hst,cond_false,h3.1,pp1]
  ·rename_i x y hc hl;rw[hl] at ha;obtain⟨v,h1,h2,h3⟩:=q5W (h:=h) (lo:=true) (ty:=o.type) hl hc e;exact⟨v,h,by simp only[hc,ha,qB,uQ];exact h1,same h2,h3⟩
  ·rename_i x y hc hl;rw[hl] at ha;obtain⟨v,h1,h2,h3⟩:=q5W (h:=h) (lo:=false) (ty:=o.type) hl hc e;exact⟨v,h,by simp only[hc,ha,qB,uQ];exact h1,same h2,h3⟩
  ·cases e
 ·cases e
def zEU (P:Program)(o:Oper)(env:List SV)(k:Nat)(h:SH)(K:SV->SH->zF6 R):zF6 R:=match o.op with
 | .entry it=>qV0 P (kE env it) h K
 | _=>sop P o env k h K
theorem q6F {k:Nat}{K:SV->SH->zF6 R}(ho:OkH P h)(he:okL h env)(e:(zEU P o env k h K).run=some r) :
 ∃ v h',q4Y P o (qB env) k (qC h.l)=some (v.enc,qC h'.l)∧Post P h h' v∧(K v h').run=some r:=by
 unfold zEU at e;split at e
 ·rename_i it ho';obtain⟨v,h1,h2,h3⟩:=qY8 ho e;refine⟨v,h,?_,⟨.refl _,ho,h2⟩,h3⟩;unfold q4Y;rw[ho'];simp only[qO,h1,pp1]
 ·obtain⟨v,h',h1,h2,h3⟩:=q47 ho he e;exact⟨v,h',qZN h1,h2,h3⟩
end
end Go.Sv
namespace Go.Sv
open Go.Idl
variable {as env:List SV}{d k m n o w:Nat}{el ty:TypeId}{g:FuncId}{h':SH}{nm:Nm}{v:SV}
noncomputable section
variable [Gc]
variable [Yl]
variable {P:Program}{h:SH}{R:Type}{r:R}{tab:uU}
omit [Yl] in
theorem qAH:∀ (cs:List FV) (ph:PHp) (n:Nat),qAC (fz1 P n) (cs.map .f) ph=some (cs,ph)
 | [],ph,n=>rfl
 | c::cs,ph,n=>by
   have e:fz1 P n ph (.f c)=some (c,ph):=by cases n <;> rfl
   show (match fz1 P n ph (.f c) with
    | some (y,ph1)=>(match qAC (fz1 P n) (cs.map .f) ph1 with
      | some (ys,ph2)=>some (y::ys,ph2)
      | none=>none)
    | none=>none)=_
   rw[e];simp only[qAH cs ph n]
theorem qZ8 {gr:Bool}{g:Nat}{t:Ty}{xs:List t.sem}(ho:OkH P h)(hk:slk k h.l=some (.list el gr g w t xs))(hn:n=xs.length)(hom:o+m<=n) :
 fz1 P (d+1) (qC h.l) (.own k n o m)=some (.l el m (((xs.drop o).take m).flatMap t.cells),qC (h.del k).l):=by
 have hl:=ho.list _ _ _ _ _ _ _ hk;simp only[fz1,zN hk];rw[show (SO.list el gr g w t xs).enc.el=el from rfl,hl.2.1];simp only[qV,hn,aI,cond_true];rw[show (SO.list el gr g w t xs).enc.cs=(xs.flatMap t.cells).map .f from rfl,<-zRV,<-zRQ,gV,gP,qAH];show some _=some (_,qC (sdl k h.l));rw[fA]
def q3D (el:TypeId)(t:Ty)(k g:Nat)(f:List t.sem->List t.sem)(h:SH):Option (List t.sem×SH):=match slk k h.l with
 | some (.list el' _ g' _ u xs)=>cond (Nat.beq el' el&&Nat.beq g g') (match qDX u t xs with
   | some xs=>some (f xs,h.del k)
   | none=>none) none
 | _=>none
def q1C (el:TypeId)(t:Ty):List SV->SH->Option (List (List t.sem)×SH)
 | [],h=>some ([],h)
 | .own k g _::l,h=>(match q3D el t k g (fun xs=>xs) h with
   | some (x,h1)=>(match q1C el t l h1 with
     | some (xs,h2)=>some (x::xs,h2)
     | none=>none)
   | none=>none)
 | _,_=>none
def qWM (P:Program)(el e2:TypeId)(t2:Ty)(k n:Nat)(h:SH):Option (List (List t2.sem)×SH):=match slk k h.l with
 | some (.cells el' _ cs)=>cond (Nat.beq el' el&&Nat.beq n cs.length) (match szT P el with
   | some 1=>q1C e2 t2 cs (h.del k)
   | _=>none) none
 | _=>none
def zCE (P:Program)(el:TypeId):(t:Ty)->(k n:Nat)->SH->Option (List t.sem×SH)
 | .list e2 t2,k,n,h=>qWM P el e2 t2 k n h
 | _,_,_,_=>none
def q98 (P:Program)(el:TypeId)(t:Ty)(k g n:Nat)(h:SH):Option (List t.sem×SH):=match q3D el t k g (fun xs=>xs) h with
 | some r=>some r
 | none=>zCE P el t k n h
def zEW (P:Program)(ty el:TypeId)(t:Ty)(h:SH):Option (List t.sem×SH):=match zS P ty with
 | some el'=>cond (Nat.beq el' el) (some ([],h)) none
 | none=>none
def q9Z (P:Program)(ty el el':TypeId)(k':IntKind)(xs:List Int):(t:Ty)->Option (List t.sem)
 | .int k=>cond (Nat.beq el' el&&decide (k'=k)) (match zS P ty with
   | some e=>cond (Nat.beq e el) (some xs) none
   | none=>none) none
 | _=>none
def qX9 (t:Ty)(v:SV)(h:SH):Option (t.sem×SH):=match t.zKP v with
 | some x=>some (x,h)
 | none=>none
def q8R (P:Program)(el el':TypeId)(k w:Nat)(ik:IntKind)(h:SH):Option (List Int×SH):=match slk k h.l with
 | some (.spc w' (.arr el0 ik' xs))=>cond (Nat.beq el el'&&(Nat.beq w' w&&(decide (ik'=ik)&&!spec P el0))) (some (xs,h.del k)) none
 | _=>none
def zBV (P:Program)(el el':TypeId)(k w:Nat):(t:Ty)->SH->Option (List t.sem×SH)
 | .int ik,h=>q8R P el el' k w ik h
 | _,_=>none
omit [Yl] in
theorem q0Q {k:IntKind}:∀ (xs:List Int),List.flatMap (Ty.int k).cells xs=xs.map fun x=>FV.v (.int k x)
 | []=>rfl
 | x::xs=>by rw[zQC,q0Q xs];rfl
theorem q1Z {el':TypeId}:∀ {t:Ty} {h h':SH} {x:List t.sem},OkH P h->(SV.asl el' k w n).ok h->zBV P el el' k w t h=some (x,h') ->
 fz1 P 4 (qC h.l) (.asl el' k n)=some ((Ty.list el t).fv x,qC h'.l)∧Keep h h'∧OkH P h'
 | .int ik,h,h',x,ho,hv,e=>by
   have e:q8R P el el' k w ik h=some (x,h'):=e;unfold q8R at e;split at e
   ·rename_i w' el0 ik' xs hk
    cases hc:(Nat.beq el el'&&(Nat.beq w' w&&(decide (ik'=ik)&&!spec P el0))) with
    | false=>rw[hc] at e;cases e
    | true =>
      rw[hc] at e;cases e;simp only[zPK,zQH,decide_eq_true_eq] at hc;obtain⟨h1,h2,h3,h4⟩:=hc;have h1:=zPL h1;have h2:=zPL h2;subst h1 h2 h3;simp only[SV.ok] at hv;obtain⟨el1,ik1,xs1,q1,q2⟩:=hv.2 _ hk rfl;cases q1;have hd:=fO (k:=k) ho;refine⟨?_,hd.1,hd.2⟩;simp only[fz1,zN hk]
      show (cond (Nat.beq n (x.map fun y=>fvv (.int ik' y)).length&&(!spec P el0&&!false)) (match qAC (fz1 P 3) (x.map fun y=>fvv (.int ik' y)) (p8 k (qC h.l)) with
       | some (cs,ph')=>some (FV.l el n cs,ph')
       | none=>none) none)=_
      rw[show (x.map fun y=>fvv (.int ik' y))=(x.map fun y=>FV.v (.int ik' y)).map .f by rw[zRR];rfl,qAH,zPR,zPR,h4,q2];simp only[aI,Bool.not_false,zQE,cond_true];rw[show p8 k (qC h.l)=qC (h.del k).l from (fA k _).symm];show some (FV.l el x.length _,_)=some (FV.l el x.length (List.flatMap (Ty.int ik').cells x),_);rw[q0Q]
   ·cases e
 | .bool,_,_,_,_,_,e=>by cases e
 | .str,_,_,_,_,_,e=>by cases e
 | .raw,_,_,_,_,_,e=>by cases e
 | .nif,_,_,_,_,_,e=>by cases e
 | .unit,_,_,_,_,_,e=>by cases e
 | .ol _ _,_,_,_,_,_,e=>by cases e
 | .list _ _,_,_,_,_,_,e=>by cases e
 | .pair _ _,_,_,_,_,_,e=>by cases e
def q0M (P:Program)(ty:TypeId):(t:Ty)->SV->SH->Option (t.sem×SH)
 | .list el t,.own k g n,h=>q98 P el t k g n h
 | .list el t,.sl k g _ o m,h=>q3D el t k g (fun xs=>(xs.drop o).take m) h
 | .list el t,.asl el' k w _,h=>zBV P el el' k w t h
 | .list el t,.c (.slice none 0 0),h=>zEW P ty el t h
 | .list el t,.d (.ol el' k') xs,h=>(match q9Z P ty el el' k' xs t with
   | some x=>some (x,h)
   | none=>none)
 | t,v,h=>cond t.nol (qX9 t v h) none
omit [Yl] in
theorem nS:∀ {t:Ty} {x:t.sem},(t.one&&t.nol)=true->rt0 P ty (.f (t.fv x))=.f (t.fv x)
 | .int _,_,_=>rfl
 | .bool,_,_=>rfl
 | .str,_,_=>rfl
 | .raw,_,_=>rfl
 | .nif,_,_=>rfl
 | .ol _ _,_,e=>by cases e
 | .list _ _,_,_=>rfl
 | .unit,_,e=>by cases e
 | .pair _ _,_,e=>by cases e
theorem qRV {t:Ty}{g:Nat}{f:List t.sem->List t.sem}{x:List t.sem}(ho:OkH P h)(hs:qZH h k g n)(hom:o+m<=n)(hf:∀ xs:List t.sem,xs.length=n->f xs=(xs.drop o).take m)(e:q3D el t k g f h=some (x,h')) :
 fz1 P (d+1) (qC h.l) (.own k n o m)=some ((Ty.list el t).fv x,qC h'.l)∧Keep h h'∧OkH P h':=by
 unfold q3D at e;split at e
 ·rename_i el' gr g' w u xs hk
  cases hc:(Nat.beq el' el&&Nat.beq g g') with
  | false=>rw[hc] at e;cases e
  | true =>
    rw[hc] at e;rw[zPK] at hc;have he:el'=el:=zPL hc.1;have hg:g=g':=zPL hc.2;subst he hg;simp only[cond_true] at e;split at e
    ·rename_i ys hys;cases uK hys;cases e;have hn:=hs.2 _ _ _ _ _ hk;have hd:=fO (k:=k) ho;refine⟨?_,hd.1,hd.2⟩;rw[qZ8 ho hk hn hom,hf _ hn.symm];show some (FV.l el' m _,_)=some (FV.l el' _ _,_);rw[zQV,zR9,zRA (by omega)]
    ·cases e
 ·cases e
theorem qIJ {ty:TypeId}{t:Ty}{g:Nat}{f:List t.sem->List t.sem}{x:List t.sem}(ho:OkH P h)(hs:qZH h k g n)(hom:o+m<=n)(hf:∀ xs:List t.sem,xs.length=n->f xs=(xs.drop o).take m)(e:q3D el t k g f h=some (x,h')) :
 fz1 P 4 (qC h.l) (.own k n o m)=some ((Ty.list el t).fv x,qC h'.l)∧Keep h h'∧OkH P h' :=
 qRV (d:=3) ho hs hom hf e
theorem qRW {el:TypeId}{t:Ty}:∀ {l:List SV} {h h':SH} {x:List (List t.sem)},OkH P h->okL h l->q1C el t l h=some (x,h') ->
 qAC (fz1 P 3) (qB l) (qC h.l)=some (x.map (Ty.list el t).fv,qC h'.l)∧Keep h h'∧OkH P h'∧x.length=l.length
 | [],h,h',x,ho,hl,e=>by
   cases e;exact⟨rfl,.refl _,ho,rfl⟩
 | v::l,h,h',x,ho,hl,e=>by
   cases v with
   | own k g n =>
     have e:(match q3D el t k g (fun xs=>xs) h with
      | some (x,h1)=>(match q1C el t l h1 with
        | some (xs,h2)=>some (x::xs,h2)
        | none=>none)
      | none=>none)=some (x,h'):=e
     split at e
     ·rename_i y h1 hy;split at e
      ·rename_i ys h2 hys;cases e;simp only[okL,SV.ok] at hl;obtain⟨a1,a2,a3⟩:=qRV (d:=2) (n:=n) (o:=0) (m:=n) ho hl.1 (by omega) (fun xs hl=>by rw[zQ4,<-hl,zSB]) hy;obtain⟨b1,b2,b3,b4⟩:=qRW a3 (qJ a2 hl.2) hys;refine⟨?_,a2.trans b2,b3,by simp[b4]⟩
       show (match fz1 P 3 (qC h.l) (.own k n 0 n) with
        | some (y,ph1)=>(match qAC (fz1 P 3) (qB l) ph1 with
          | some (ys,ph2)=>some (y::ys,ph2)
          | none=>none)
        | none=>none)=_
       rw[a1];simp only[b1];rfl
      ·cases e
     ·cases e
   | _=>cases e
theorem q1H:∀ {t:Ty} {k n g:Nat} {h h':SH} {x:List t.sem},OkH P h->zCE P el t k n h=some (x,h') ->
 fz1 P 4 (qC h.l) (.own k n 0 n)=some ((Ty.list el t).fv x,qC h'.l)∧Keep h h'∧OkH P h'
 | .list e2 t2,k,n,g,h,h',x,ho,e=>by
   have e:qWM P el e2 t2 k n h=some (x,h'):=e;unfold qWM at e;split at e
   ·rename_i el' w cs hk
    cases hc:(Nat.beq el' el&&Nat.beq n cs.length) with
    | false=>rw[hc] at e;cases e
    | true =>
      rw[hc] at e;simp only[cond_true] at e;rw[zPK] at hc;have h1:=zPL hc.1;have h2:=zPL hc.2;subst h1;split at e
      ·rename_i hs;have hd:=fO (k:=k) ho;obtain⟨b1,b2,b3,b4⟩:=qRW hd.2 (qJ hd.1 (ho.cells _ _ _ _ hk)) e;refine⟨?_,hd.1.trans b2,b3⟩;simp only[fz1,zN hk]
       show (match szT P el' with
        | some s=>cond (Nat.beq (n*s) (qB cs).length) (match qAC (fz1 P 3) (((qB cs).drop (0*s)).take (n*s)) (p8 k (qC h.l)) with
          | some (cs,ph')=>some (FV.l el' n cs,ph')
          | none=>none) none
        | none=>none)=_
       rw[hs];simp only[Nat.mul_one,zTB,zQ4,qQ,h2,aI,cond_true];rw[zQD (by rw[qQ];exact zPM _),show p8 k (qC h.l)=qC (h.del k).l from (fA k _).symm,b1];show some (FV.l el' cs.length (x.map (Ty.list e2 t2).fv),_)=some (FV.l el' x.length (x.flatMap (Ty.list e2 t2).cells),_);rw[b4]
       have hf:∀ y:List (List t2.sem),y.flatMap (Ty.list e2 t2).cells=y.map (Ty.list e2 t2).fv:=fun y=>by
        induction y with
        | nil=>rfl
        | cons a y ih=>rw[zQC,ih];rfl
       rw[hf]
      ·cases e
   ·cases e
 | .int _,_,_,_,_,_,_,_,e=>by cases e
 | .bool,_,_,_,_,_,_,_,e=>by cases e
 | .str,_,_,_,_,_,_,_,e=>by cases e
 | .unit,_,_,_,_,_,_,_,e=>by cases e
 | .pair _ _,_,_,_,_,_,_,_,e=>by cases e
 | .raw,_,_,_,_,_,_,_,e=>by cases e
 | .ol _ _,_,_,_,_,_,_,_,e=>by cases e
 | .nif,_,_,_,_,_,_,_,e=>by cases e
theorem qQW {t:Ty}{x:t.sem}(ho:OkH P h)(hv:v.ok h)(e:q0M P ty t v h=some (x,h')) :
 ∃ y,fz1 P 4 (qC h.l) v.enc=some (y,qC h'.l)∧rt0 P ty (.f y)=.f (t.fv x)∧(t.one&&t.nol)=true∧Keep h h'∧OkH P h':=by
 unfold q0M at e;split at e
 ·rename_i el t k g n;simp only[SV.ok] at hv;unfold q98 at e;split at e
  ·rename_i r hr;cases e;obtain⟨h1,h2,h3⟩:=qIJ (ty:=ty) (n:=n) (o:=0) (m:=n) ho hv (by omega) (fun xs hl=>by rw[zQ4,<-hl,zSB]) hr;exact⟨_,by simp only[SV.enc];exact h1,nS rfl,rfl,h2,h3⟩
  ·obtain⟨h1,h2,h3⟩:=q1H (g:=g) ho e;exact⟨_,by simp only[SV.enc];exact h1,nS rfl,rfl,h2,h3⟩
 ·rename_i el t k g n o m;simp only[SV.ok] at hv;obtain⟨h1,h2,h3⟩:=qIJ (ty:=ty) (n:=n) (o:=o) (m:=m) ho hv.1 hv.2 (fun xs hl=>rfl) e;exact⟨_,by simp only[SV.enc];exact h1,nS rfl,rfl,h2,h3⟩
 ·rename_i el t el' k w n;obtain⟨h1,h2,h3⟩:=q1Z ho hv e;exact⟨_,by simp only[SV.enc];exact h1,nS rfl,rfl,h2,h3⟩
 ·rename_i el t;unfold zEW at e;split at e
  ·rename_i el' hel
   cases hc:Nat.beq el' el with
   | false=>rw[hc] at e;cases e
   | true =>
     rw[hc] at e;cases e;have he:el'=el:=zPL hc;subst he;refine⟨.v (.slice none 0 0),by simp only[SV.enc,fvv,fz1],?_,rfl,.refl _,ho⟩
     show (match zS P ty with
      | some el=>PV.f (.l el 0 [])
      | none=>fvv (.slice none 0 0))=_
     rw[hel];rfl
  ·cases e
 ·rename_i el t el' k' xs;split at e
  ·rename_i y hy;cases e;unfold q9Z at hy;split at hy
   ·rename_i k _
    cases hc:(Nat.beq el' el&&decide (k'=k)) with
    | false=>rw[hc] at hy;cases hy
    | true =>
      rw[hc] at hy;rw[zPK] at hc;have h1:el'=el:=zPL hc.1;have h2:k'=k:=by simpa using hc.2
      subst h1 h2;simp only[cond_true] at hy;split at hy
      ·rename_i e0 he0
       cases hc2:Nat.beq e0 el' with
       | false=>rw[hc2] at hy;cases hy
       | true =>
         rw[hc2] at hy;cases hy;have h3:e0=el':=zPL hc2;subst h3;refine⟨fvo e0 k' xs,by simp only[SV.enc];rfl,?_,rfl,.refl _,ho⟩
         cases xs with
         | nil =>
           show (match zS P ty with
            | some el=>PV.f (.l el 0 [])
            | none=>fvv (.slice none 0 0))=_
           rw[he0];rfl
         | cons x xs=>rfl
      ·cases hy
   ·cases hy
  ·cases e
 ·obtain⟨zNY,e⟩:t.nol=true∧qX9 t v h=some (x,h'):=by
   cases hn:t.nol with
   | true=>rw[hn] at e;exact⟨rfl,e⟩
   | false=>rw[hn] at e;cases e
  unfold qX9 at e;split at e
  ·rename_i y hy;cases e;obtain⟨h1,h2⟩:=qAO hy;have h3:(t.one&&t.nol)=true:=by rw[h2,zNY];rfl
   exact⟨_,by rw[h1];rfl,nS h3,h3,.refl _,ho⟩
  ·cases e
def zEC (P:Program)(ty:TypeId)(t:Ty)(v:SV)(h:SH):Option (t.sem×SH):=cond (Gc.ol ty) (qX9 t v h) (q0M P ty t v h)
theorem q6P {t:Ty}{x:t.sem}(ho:OkH P h)(hv:v.ok h)(e:zEC P ty t v h=some (x,h')) :
 ∃ y,fz1 P 4 (qC h.l) v.enc=some (y,qC h'.l)∧rtC P ty (.f y)=.f (t.fv x)∧rtC P ty (.f (t.fv x))=.f (t.fv x)∧t.one=true∧Keep h h'∧OkH P h':=by
 unfold zEC at e;unfold rtC
 cases hc:Gc.ol ty with
 | true =>
   rw[hc] at e;simp only[cond_true] at e ⊢;unfold qX9 at e;split at e
   ·rename_i y hy;cases e;obtain⟨h1,h2⟩:=qAO hy;exact⟨_,by rw[h1];rfl,rfl,trivial,h2,.refl _,ho⟩
   ·cases e
 | false =>
   rw[hc] at e;simp only[cond_false] at e ⊢;obtain⟨y,a1,a2,a3,a4,a5⟩:=qQW ho hv e;exact⟨y,a1,a2,nS a3,(by rw[zPK] at a3;exact a3.1),a4,a5⟩
def qH1 (P:Program)(t:Ty)(tys:List TypeId)(l:List SV)(h:SH):Option (t.sem×List TypeId×List SV×SH):=match tys,l with
 | ty::tys,v::l=>(match zEC P ty t v h with
   | some (x,h')=>some (x,tys,l,h')
   | none=>none)
 | _,_=>none
def Ty.zJB (P:Program):(t:Ty)->List TypeId->List SV->SH->Option (t.sem×List TypeId×List SV×SH)
 | .unit,tys,l,h=>some ((),tys,l,h)
 | .pair a b,tys,l,h=>match a.zJB P tys l h with
   | some (x,zJ1,l1,h1)=>(match b.zJB P zJ1 l1 h1 with
     | some (y,zMM,l2,h2)=>some ((x,y),zMM,l2,h2)
     | none=>none)
   | none=>none
 | .int k,tys,l,h=>qH1 P (.int k) tys l h
 | .bool,tys,l,h=>qH1 P .bool tys l h
 | .str,tys,l,h=>qH1 P .str tys l h
 | .raw,tys,l,h=>qH1 P .raw tys l h
 | .ol el k,tys,l,h=>qH1 P (.ol el k) tys l h
 | .nif,tys,l,h=>qH1 P .nif tys l h
 | .list el t,tys,l,h=>qH1 P (.list el t) tys l h
def zE7 (P:Program)(t:Ty)(tys:List TypeId)(l:List SV)(h:SH)(x:t.sem)(zGO:List TypeId)(l':List SV)(h':SH):Prop :=
 okL h' l'∧Keep h h'∧OkH P h'∧∃ ys:List FV,(∀ zs p,qAC (fz1 P 4) (qB l') (qC h'.l)=some (zs,p)->qAC (fz1 P 4) (qB l) (qC h.l)=some (ys++zs,p)) ∧
  ∀ zs:List PV,rtL (rtC P) tys (ys.map .f++zs)=(t.cells x).map .f++rtL (rtC P) zGO zs∧rtL (rtC P) tys ((t.cells x).map .f++zs)=(t.cells x).map .f++rtL (rtC P) zGO zs
theorem fV {t:Ty}{tys zGO:List TypeId}{l l':List SV}{x:t.sem}(ho:OkH P h)(hl:okL h l)(e:qH1 P t tys l h=some (x,zGO,l',h')):zE7 P t tys l h x zGO l' h':=by
 unfold qH1 at e;split at e
 ·rename_i ty tys v l;split at e
  ·rename_i y h1 hd;cases e;simp only[okL] at hl;obtain⟨y,a1,a2,a2',a3,a4,a5⟩:=q6P ho hl.1 hd;refine⟨qJ a4 hl.2,a4,a5,[y],fun zs p hz=>?_,fun zs=>⟨?_,?_⟩⟩
   ·simp only[qB,qAC,a1,hz];rfl
   ·show rtC P ty (.f y)::rtL (rtC P) _ zs=_;rw[a2,Ty.cells_one a3];rfl
   ·rw[Ty.cells_one a3];show rtC P ty (.f (t.fv _))::rtL (rtC P) _ zs=_;rw[a2'];rfl
  ·cases e
 ·cases e
theorem qCK:∀ {t:Ty} {tys zGO:List TypeId} {l l':List SV} {h:SH} {x:t.sem} {h':SH},OkH P h->okL h l->t.zJB P tys l h=some (x,zGO,l',h')->zE7 P t tys l h x zGO l' h'
 | .unit,tys,zGO,l,l',h,x,h',ho,hl,e=>by
   cases e;exact⟨hl,.refl _,ho,[],fun zs p hz=>hz,fun zs=>⟨rfl,rfl⟩⟩
 | .int k,tys,zGO,l,l',h,x,h',ho,hl,e=>fV ho hl e
 | .bool,tys,zGO,l,l',h,x,h',ho,hl,e=>fV ho hl e
 | .str,tys,zGO,l,l',h,x,h',ho,hl,e=>fV ho hl e
 | .raw,tys,zGO,l,l',h,x,h',ho,hl,e=>fV ho hl e
 | .ol _ _,tys,zGO,l,l',h,x,h',ho,hl,e=>fV ho hl e
 | .nif,tys,zGO,l,l',h,x,h',ho,hl,e=>fV ho hl e
 | .list el t,tys,zGO,l,l',h,x,h',ho,hl,e=>fV ho hl e
 | .pair a b,tys,zGO,l,l',h,x,h',ho,hl,e=>by
   unfold Ty.zJB at e;split at e
   ·rename_i x1 zJ1 l1 h1 hd1;split at e
    ·rename_i y zMM l2 h2 hd2;cases e;obtain⟨a1,a2,a3,ys,a4,a5⟩:=qCK ho hl hd1;obtain⟨b1,b2,b3,zs,b4,b5⟩:=qCK a3 a1 hd2;refine⟨b1,a2.trans b2,b3,ys++zs,fun us p hu=>?_,fun us=>⟨?_,?_⟩⟩
     ·rw[zQK];exact a4 _ _ (b4 _ _ hu)
     ·rw[zQX,zQK,(a5 _).1,(b5 _).1];show _=(a.cells x1++b.cells y).map PV.f++_;rw[zQX,zQK]
     ·show rtL (rtC P) _ ((a.cells x1++b.cells y).map PV.f++us)=(a.cells x1++b.cells y).map PV.f++_;rw[zQX,zQK,(a5 _).2,(b5 _).2,zQK]
    ·cases e
   ·cases e
def q67 (P:Program)(ty:TypeId)(t:Ty)(v:SV)(h:SH):Option (t.sem×SH):=cond t.one (match v with
 | .agg _=>none
 | v=>q0M P ty t v h) (match v with
 | .agg l=>(match t.zJB P (wB P 8 ty) l h with
   | some (x,_,[],h')=>some (x,h')
   | _=>none)
 | _=>none)
theorem qCW {t:Ty}{x:t.sem}(ho:OkH P h)(hv:v.ok h)(e:q67 P ty t v h=some (x,h')) :
 ∃ y,fzP P (qC h.l) v.enc=some (y,qC h'.l)∧rt1 P ty y=t.pv x∧Keep h h'∧OkH P h'∧rt1 P ty (t.pv x)=t.pv x:=by
 unfold q67 at e
 cases ht:t.one with
 | true =>
   rw[ht] at e;simp only[cond_true] at e;split at e
   ·cases e
   ·rename_i hna;obtain⟨y,h1,h2,h3,h4,h5⟩:=qQW ho hv e
    have hpv:rt1 P ty (t.pv x)=t.pv x:=by
     unfold Ty.pv;rw[ht];exact nS h3
    refine⟨.f y,?_,?_,h4,h5,hpv⟩
    ·cases v with
     | agg l=>exact absurd rfl (hna l)
     | opt b k o w=>cases b <;> (simp only[SV.enc,fvv,fzP,cond_true,cond_false] at h1 ⊢;rw[h1])
     | _=>simp only[SV.enc,fvv,fzP] at h1 ⊢;rw[h1]
    ·show rt0 P ty (.f y)=_;rw[h2];unfold Ty.pv;rw[ht];rfl
 | false =>
   rw[ht] at e;simp only[cond_false] at e;split at e
   ·rename_i l;split at e
    ·rename_i x1 zJ1 h1 hd;cases e;simp only[SV.ok] at hv;obtain⟨a1,a2,a3,ys,a4,a5⟩:=qCK ho hv hd
     have hpv:rt1 P ty (t.pv x)=t.pv x:=by
      unfold Ty.pv;rw[ht];show PV.agg (rtL (rtC P) (wB P 8 ty) ((t.cells x).map .f))=_;have:=(a5 []).2;rw[zRF] at this;rw[this];cases zJ1 <;> simp[rtL]
     refine⟨.agg (ys.map .f),?_,?_,a2,a3,hpv⟩
     ·have:=a4 [] (qC h'.l) (by simp[qB,qAC]);simp only[SV.enc,fzP,this,zRF]
     ·show PV.agg (rtL (rtC P) (wB P 8 ty) (ys.map .f))=_;have:=(a5 []).1;rw[zRF] at this;rw[this];unfold Ty.pv;rw[ht];cases zJ1 <;> simp[rtL]
    ·cases e
   ·cases e
def vU (P:Program):List TypeId->(ts:List Ty)->List SV->SH->Option (TyL ts×SH)
 | _,[],[],h=>some ((),h)
 | ty::_,[t],[v],h=>q67 P ty t v h
 | ty::tys,t::u::ts,v::vs,h=>match q67 P ty t v h with
   | some (x,h1)=>(match vU P tys (u::ts) vs h1 with
     | some (y,h2)=>some ((x,y),h2)
     | none=>none)
   | none=>none
 | _,_,_,_=>none
theorem eB:∀ {tys:List TypeId} {ts:List Ty} {vs:List SV} {h:SH} {x:TyL ts} {h':SH},OkH P h->okL h vs->vU P tys ts vs h=some (x,h') ->
 ∃ ys,fzA P (qB vs) (qC h.l)=some (ys,qC h'.l)∧rtL (rt1 P) tys ys=pvL ts x∧Keep h h'∧OkH P h'
 | tys,[],[],h,x,h',ho,hv,e=>by
   unfold vU at e;cases e;refine⟨[],rfl,?_,.refl _,ho⟩;cases tys <;> rfl
 | ty::tys,[t],[v],h,x,h',ho,hv,e=>by
   unfold vU at e;simp only[okL] at hv;obtain⟨y,h1,h2,h3,h4,_⟩:=qCW ho hv.1 e;refine⟨[y],?_,?_,h3,h4⟩
   ·simp only[qB,fzA,h1]
   ·show rt1 P ty y::rtL (rt1 P) tys []=[t.pv x];rw[h2];cases tys <;> rfl
 | ty::tys,t::u::ts,v::vs,h,x,h',ho,hv,e=>by
   unfold vU at e;simp only[okL] at hv;split at e
   ·rename_i x1 h1 hd;split at e
    ·rename_i y1 h2 hd2;cases e;obtain⟨y,a1,a2,a3,a4,_⟩:=qCW ho hv.1 hd;obtain⟨ys,b1,b2,b3,b4⟩:=eB a4 (qJ a3 hv.2) hd2;refine⟨y::ys,?_,?_,a3.trans b3,b4⟩
     ·simp only[qB,fzA,a1,b1]
     ·show rt1 P ty y::rtL (rt1 P) tys ys=t.pv x1::pvL (u::ts) y1;rw[a2,b2]
    ·cases e
   ·cases e
 | [],[_],[_],_,_,_,_,_,e=>by unfold vU at e;cases e
 | [],_::_::_,_::_,_,_,_,_,_,e=>by unfold vU at e;cases e
 | tys,[],_::_,_,_,_,_,_,e=>by cases tys <;> (unfold vU at e;cases e)
 | tys,_::ts,[],_,_,_,_,_,e=>by cases tys <;> cases ts <;> (unfold vU at e;cases e)
 | tys,[_],_::_::_,_,_,_,_,_,e=>by cases tys <;> (unfold vU at e;cases e)
def Ty.sv (t:Ty)(x:t.sem):SV:=cond t.one (.d t x) (.agg (t.svs x))
theorem pK (t:Ty)(x:t.sem):(t.sv x).enc=t.pv x:=by
 unfold Ty.sv Ty.pv;cases t.one <;> simp[SV.enc,fP]
omit [Yl] in
theorem qJO (t:Ty)(x:t.sem):(t.sv x).ok h:=by
 unfold Ty.sv;cases t.one
 ·simp only[cond_false,SV.ok];exact qFU t x
 ·simp[SV.ok]
def svL:(ts:List Ty)->TyL ts->List SV
 | [],_=>[]
 | [t],x=>[t.sv x]
 | t::u::ts,x=>t.sv x.1::svL (u::ts) x.2
theorem qBK:∀ (ts:List Ty) (x:TyL ts),qB (svL ts x)=pvL ts x
 | [],_=>by simp[svL,pvL,qB]
 | [t],x=>by simp[svL,pvL,qB,pK]
 | t::u::ts,x=>by
   show qB (t.sv x.1::svL (u::ts) x.2)=t.pv x.1::pvL (u::ts) x.2;simp only[qB,pK,qBK (u::ts)]
omit [Yl] in
theorem qC4:∀ (ts:List Ty) (x:TyL ts),okL h (svL ts x)
 | [],_=>by simp[svL,okL]
 | [t],x=>by simp[svL,okL,qJO]
 | t::u::ts,x=>by
   show okL h (t.sv x.1::svL (u::ts) x.2);simp only[okL];exact⟨qJO t x.1,qC4 (u::ts) x.2⟩
def qKN (ts:List Ty)(x:TyL ts):SV:=match svL ts x with
 | [v]=>v
 | vs=>.tup vs
theorem qJS (ts:List Ty)(x:TyL ts):(qKN ts x).enc=jO ts x:=by
 unfold qKN jO;rw[<-qBK]
 match svL ts x with
 | []=>simp[qB,qDR,SV.enc]
 | [v]=>simp[qB,qDR]
 | a::b::l=>simp[qB,qDR,SV.enc]
omit [Yl] in
theorem qR5 (ts:List Ty)(x:TyL ts):(qKN ts x).ok h:=by
 unfold qKN;have:=qC4 (h:=h) ts x;split
 ·rename_i v hv;rw[hv] at this;simp only[okL] at this;exact this.1
 ·simp only[SV.ok];exact this
def qRS (tab:uU)(T:zT):Prop:=∀ g ent,slT g T=some ent->∀ x,tab g (pvL ent.as x)=(ent.F x).map (jO ent.rs)
def okc:FV->Bool
 | .v (.slice _ _ _)=>false
 | .v _=>true
 | .l _ _ _=>false
def _root_.Go.Sv.Ty.pln:Ty->Bool
 | .int _ | .bool | .str | .unit | .nif=>true
 | .pair a b=>Go.Sv.Ty.pln a&&Go.Sv.Ty.pln b
 | _=>false
omit [Yl] in
theorem nQ:∀ (t:Ty) (x:t.sem),(t.cells x).all okc=t.pln
 | .int _,_=>rfl
 | .bool,_=>rfl
 | .str,_=>rfl
 | .unit,_=>rfl
 | .nif,_=>rfl
 | .raw,_=>rfl
 | .list _ _,_=>rfl
 | .ol _ _,xs=>by cases xs <;> rfl
 | .pair a b,x=>by
   show (a.cells x.1++b.cells x.2).all okc=(a.pln&&b.pln);rw[zS9,nQ a,nQ b]
omit [Yl] in
theorem qYR:∀ (cs:List FV),((qJW (cs.map .f)).isSome&&(cs.map PV.f).all q8C)=cs.all okc
 | []=>rfl
 | c::cs=>by
   rw[zQY,<-qYR cs,zP3,zQY]
   cases c with
   | l el n xs=>rfl
   | v x =>
     have e2:q8C (.f (.v x))=okc (.v x):=by cases x <;> rfl
     rw[e2,show qJW (.f (.v x)::cs.map .f)=(match qJW (cs.map .f) with
      | some vs=>some (x::vs)
      | none=>none) from rfl]
     cases qJW (cs.map PV.f) with
     | none=>simp only[zT7,Bool.false_and,Bool.and_false]
     | some vs=>simp only[zSV,zT8]
omit [Yl] in
theorem qGI (t:Ty)(x:t.sem):vM (t.pv x)=t.pln∧((pl (t.pv x)).isSome&&qXB (t.pv x))=t.pln:=by
 unfold Ty.pv
 cases ht:t.one with
 | true =>
   simp only[cond_true];have:=nQ t x;rw[Ty.cells_one ht] at this;rw[<-this,zQY,List.all_nil,zRU]
   cases hv:t.fv x with
   | l el n xs=>exact⟨rfl,rfl⟩
   | v y=>cases y <;> exact⟨rfl,rfl⟩
 | false =>
   simp only[cond_false];have:=qYR (t.cells x);rw[nQ] at this;refine⟨this,?_⟩;rw[<-this]
   show ((match qJW ((t.cells x).map .f) with
    | some vs=>some (Value.agg vs.toArray)
    | none=>none).isSome&&((t.cells x).map PV.f).all q8C)=_
   cases qJW ((t.cells x).map .f) <;> rfl
def q92 (ts:List Ty):Bool:=ts.all Ty.pln
omit [Yl] in
theorem qJM:∀ (ts:List Ty) (x:TyL ts),((plL (pvL ts x)).isSome&&(pvL ts x).all qXB)=q92 ts
 | [],_=>rfl
 | [t],x=>by
   show ((match pl (t.pv x) with
    | some v=>(match plL [] with
      | some vs=>some (v::vs)
      | none=>none)
    | none=>none).isSome&&((t.pv x)::[]).all qXB)=(t.pln&&true)
   rw[<- (qGI t x).2,zQY];cases pl (t.pv x) <;> simp[plL]
 | t::u::ts,x=>by
   show ((match pl (t.pv x.1) with
    | some v=>(match plL (pvL (u::ts) x.2) with
      | some vs=>some (v::vs)
      | none=>none)
    | none=>none).isSome&&((t.pv x.1)::pvL (u::ts) x.2).all qXB)=(t.pln&&q92 (u::ts))
   rw[<- (qGI t x.1).2,<-qJM (u::ts) x.2,zQY]
   cases pl (t.pv x.1) with
   | none=>simp
   | some v=>cases plL (pvL (u::ts) x.2) with
     | none=>simp
     | some vs=>simp
omit [Yl] in
theorem qKL (ts:List Ty)(x:TyL ts):vM (jO ts x)=q92 ts:=by
 unfold jO
 match ts,x with
 | [],x=>rfl
 | [t],x =>
   show vM (t.pv x)=(t.pln&&true);rw[(qGI t x).1,zRU]
 | t::u::ts,x =>
   have:=qJM (t::u::ts) x;cases ts <;> exact this
def qS9 (P:Program)(T:zT)(d:Bool)(g:FuncId)(as:List SV)(h:SH)(K:SV->SH->zF6 R):zF6 R:=match slT g T,P.funcs[g]? with
 | some ent,some fn=>(match vU P fn.params.toList ent.as as h with
   | some (x,h1)=>.bind (ent.F x) fun y=>cond d (cond (q92 ent.rs||(qB as).all qLI) (K (qKN ent.rs y) h) .fail) (K (qKN ent.rs y) (cond (q92 ent.rs) h h1))
   | none=>.fail)
 | _,_=>.fail
theorem q2I {T:zT}(ht:qRS tab T){K:SV->SH->zF6 R}(ho:OkH P h)(ha:okL h as)(e:(qS9 P T false g as h K).run=some r) :
 ∃ v h',aF P tab g (qB as) (qC h.l)=.ok v.enc (qC h'.l)∧Post P h h' v∧(K v h').run=some r:=by
 unfold qS9 at e;split at e
 ·rename_i ent fn hent hfn;split at e
  ·rename_i x h1 hx;obtain⟨y,hy,e1⟩:=run_bind e;obtain⟨ys,a1,a2,a3,a4⟩:=eB ho ha hx;have e2:(K (qKN ent.rs y) (cond (vM (jO ent.rs y)) h h1)).run=some r:=by rw[qKL];exact e1
   refine⟨_,_,?_,⟨?_,?_,qR5 _ _⟩,e2⟩
   ·unfold aF;rw[a1];simp only;rw[show rtA P g ys=pvL ent.as x by unfold rtA;rw[hfn];exact a2,ht g ent hent x,hy];simp only[zPZ,qJS];cases vM (jO ent.rs y) <;> rfl
   ·cases vM (jO ent.rs y)
    ·exact a3
    ·exact .refl _
   ·cases vM (jO ent.rs y)
    ·exact a4
    ·exact ho
  ·cases e
 ·cases e
theorem qW8 {T:zT}(ht:qRS tab T){K:SV->SH->zF6 R}(ho:OkH P h)(ha:okL h as)(e:(qS9 P T true g as h K).run=some r) :
 ∃ v h',rY P tab g (qB as) (qC h.l)=.ok v.enc (qC h'.l)∧Post P h h' v∧(K v h').run=some r:=by
 unfold qS9 at e;split at e
 ·rename_i ent fn hent hfn;split at e
  ·rename_i x h1 hx;obtain⟨y,hy,e1⟩:=run_bind e;obtain⟨ys,a1,a2,a3,a4⟩:=eB ho ha hx;obtain⟨c,e2⟩:=qE (show (cond (vM (jO ent.rs y)||(qB as).all qLI) (K (qKN ent.rs y) h) .fail:zF6 R).run=some r by rw[qKL];exact e1);refine⟨_,_,?_,⟨.refl _,ho,qR5 _ _⟩,e2⟩;unfold rY;rw[a1];simp only;rw[show rtA P g ys=pvL ent.as x by unfold rtA;rw[hfn];exact a2,ht g ent hent x,hy];simp only[zPZ,qJS,c,cond_true]
  ·cases e
 ·cases e
def sG (fv:SV)(args:List SV):Option (FuncId×List SV):=match fv with
 | .c (.func (.func g) a c)=>cond (a.toList.isEmpty&&c.toList.isEmpty) (some (g,args)) none
 | .fn g first cap=>some (g,first++(args++cap))
 | _=>none
theorem dO {fv:SV}{args:List SV}(hf:fv.ok h)(ha:okL h args)(e:sG fv args=some (g,as)):target fv.enc (qB args)=some (g,qB as)∧okL h as:=by
 unfold sG at e;split at e
 ·rename_i g' a c
  cases hc:(a.toList.isEmpty&&c.toList.isEmpty) with
  | false=>rw[hc] at e;cases e
  | true =>
    rw[hc] at e;cases e;exact⟨by simp only[target,SV.enc,fvv,hc,cond_true],ha⟩
 ·rename_i g' first cap
  cases e;simp only[SV.ok] at hf;exact⟨by simp only[target,SV.enc,d9],gY hf.1 (gY ha hf.2)⟩
 ·cases e
def q5A (P:Program)(T:zT)(d:Bool)(f:SV)(args:List SV)(h:SH)(K:SV->SH->zF6 R):zF6 R:=match sG f args with
 | some (g,as)=>qS9 P T d g as h K
 | none=>.fail
def q18 (P:Program)(T:zT)(d:Bool)(k:Nat)(o:Oper)(env:List SV)(h:SH)(K:SV->SH->zF6 R):zF6 R:=match o.op with
 | .call ⟨.value f,args,_⟩=>q5A P T d (kE env f) (eP env args) h K
 | _=>sop P o env k h K
def qUY (P:Program)(G:Nat->Bool)(CI:CIT):Prop:=∀ {R:Type} (nm:Nm) (f:FuncId) (as:List SV) (h:SH) (K:SV->SH->zF6 R) (r:R),OkH P h->okL h as->(CI R nm f as h K).run=some r ->
 qD0 P G nm f (qB as) (qC h.l) fun v p=>∃ v' h',v=v'.enc∧p=qC h'.l∧Post P h h' v'∧(K v' h').run=some r
def qSB (p:Nat->Bool)(env:List SV):List (Nat×SO)->Bool
 | []=>true
 | (k,_)::l=>(!p k||z8 k (qB env))&&qSB p env l
theorem qIV {p:Nat->Bool}{env:List SV}:∀ {l:List (Nat×SO)},qSB p env l=true->clean p (qB env) (qC l)=true
 | [],_=>rfl
 | (k,o)::l,h=>by
   have h:((!p k||z8 k (qB env))&&qSB p env l)=true:=h;show ((!p k||z8 k (qB env))&&clean p (qB env) (qC l))=true;rw[zPK] at h ⊢;exact⟨h.1,qIV h.2⟩
section
variable {Γ:Type}
def q4R (p:Nat->Bool):List (Nat×SO)->Bool
 | []=>true
 | (_,.cells _ _ l)::r=>tX p (qB l)&&q4R p r
 | (_,.list _ _ _ _ _ _)::r=>q4R p r
 | (_,.spc _ (.mit _ j _ _ _))::r=>!(p j)&&q4R p r
 | (_,.spc _ (.map _))::r=>q4R p r
 | (_,.spc _ (.iter _ _))::r=>q4R p r
 | (_,.spc _ (.arr _ _ _))::r=>q4R p r
theorem qYU (p:Nat->Bool):∀ (cs:List FV),tX p (cs.map .f)=true
 | []=>by simp[tX]
 | c::cs=>by simp[tX,noP,qYU p cs]
theorem qUK (p:Nat->Bool):∀ (l:List Nat),tX p (l.map iv)=true
 | []=>by simp[tX]
 | c::cs=>by
   show (true&&tX p (cs.map iv))=true;rw[qUK p cs];rfl
theorem q1S (p:Nat->Bool)(j si la:Nat)(seen:List Nat):tX p (qF4 (.mp j) si la seen)=!(p j):=by
 show (!(p j)&&(true&&(true&&(tX p (seen.map iv)&&true))))=_;rw[qUK];simp
theorem q1R (p:Nat->Bool)(c:Nat):∀ (es:List MapEntry),tX p (kV c es)=true:=fun es=>by
 have:∀ es:List MapEntry,tX p (qD1 es)=true:=fun es=>by
  induction es with
  | nil=>rfl
  | cons e es ih=>exact ih
 exact this es
theorem mX {p:Nat->Bool}:∀ {l:List (Nat×SO)},q0D p (qC l)=q4R p l
 | []=>rfl
 | (j,.cells el w l)::r=>by
   show (tX p (qB l)&&q0D p (qC r))=_;rw[mX];rfl
 | (j,.list el gr g w t xs)::r=>by
   show (tX p ((xs.flatMap t.cells).map .f)&&q0D p (qC r))=_;rw[qYU,mX];rfl
 | (j,.spc w (.mit t i si la seen))::r=>by
   show (tX p (qF4 (.mp i) si la seen)&&q0D p (qC r))=_;rw[q1S,mX];rfl
 | (j,.spc w (.map es))::r=>by
   show (tX p (kV _ _)&&q0D p (qC r))=_;rw[q1R,mX];rfl
 | (j,.spc w (.iter s pos))::r=>by
   show (tX p (qBO s pos)&&q0D p (qC r))=_;rw[show tX p (qBO s pos)=true from rfl,mX];rfl
 | (j,.spc w (.arr el ik xs))::r=>by
   show (tX p (xs.map fun x=>fvv (.int ik x))&&q0D p (qC r))=_;rw[show (xs.map fun x=>fvv (.int ik x))=(xs.map fun x=>FV.v (.int ik x)).map .f by rw[zRR];rfl,qYU,mX];rfl
def zBP (nm:Nm)(j:FuncId)(env:List SV)(h:SH):Bool:=tX (inB (nm.b+wid nm.b*1000*(j+1))) (qB env)&&(((qC h.l).all fun x=>!inB (nm.b+wid nm.b*1000*(j+1)) x.1||nm.p x.1)&&q4R (zEZ (nm.b+wid nm.b*1000*(j+1))) h.l)
theorem qMQ {j:FuncId}{h:SH}:zBP nm j env h=q5C nm j (qB env) (qC h.l):=by
 unfold zBP q5C;rw[mX]
def q6U (nm:Nm)(g:FuncId)(env:List SV)(h:SH)(k:FuncId->zF6 R):zF6 R :=
 cond (zBP nm g env h) (k g) (cond (zBP nm (g+333) env h) (k (g+333)) (cond (zBP nm (g+666) env h) (k (g+666)) (k g)))
theorem q3Z {h:SH}{k:FuncId->zF6 R}:q6U nm g env h k=k (qKE nm g (qB env) (qC h.l)):=by
 unfold q6U qKE;rw[qMQ,qMQ,qMQ];cases q5C nm g (qB env) (qC h.l)
 ·cases q5C nm (g+333) (qB env) (qC h.l)
  ·cases q5C nm (g+666) (qB env) (qC h.l) <;> rfl
  ·rfl
 ·rfl
def q5J (P:Program)(T:zT)(CI:CIT)(Y:YI Γ)(nm:Nm)(f:SV)(args:List SV)(g:Γ)(env:List SV)(h:SH)(K:Γ->SV->SH->zF6 R):zF6 R:=match f with
 | .yv=>(match vU P Y.yt Y.ys args h with
   | some (y,h1)=>.bind (Y.stp g y) fun p=>K p.1 (.d .bool p.2) h1
   | none=>.fail)
 | f=>(match sG f args with
   | some (t,as)=>cond (slT t T).isSome (qS9 P T false t as h (K g)) (q6U nm t env h fun j=>CI R (qV4 nm j) t as h fun v h2=>cond (qSB (qV4 nm j).p env h2.l) (K g v h2) .fail)
   | none=>.fail)
def q4M (P:Program)(T:zT)(CI:CIT)(Y:YI Γ)(nm:Nm)(o:Oper)(g:Γ)(env:List SV)(h:SH)(K:Γ->SV->SH->zF6 R):zF6 R:=match o.op with
 | .call ⟨.value f,args,_⟩=>q5J P T CI Y nm (kE env f) (eP env args) g env h K
 | _=>zEU P o env (qI nm o.dst) h (K g)
def YOk (P:Program)(G:Nat->Bool)(w:Wld Γ)(Y:YI Γ):Prop:=∀ g y g' b,Y.stp g y=some (g',b)->qKW P G w Yl.l g (pvL Y.ys y) g' b
end
theorem qLY {T:zT}(ht:qRS tab T){o:Oper}{K:SV->SH->zF6 R}(ho:OkH P h)(he:okL h env)(e:(q18 P T true k o env h K).run=some r) :
 ∃ v h',zM P tab k o (qB env) (qC h.l)=.ok v.enc (qC h'.l)∧Post P h h' v∧(K v h').run=some r:=by
 unfold q18 at e;unfold zM;split at e
 ·rename_i f args ts hop;unfold q5A at e;split at e
  ·rename_i g as hst;obtain⟨h1,h2⟩:=dO (nD he f) (fD he args) hst;obtain⟨v,h',a1,a2,a3⟩:=qW8 ht ho h2 e;refine⟨v,h',?_,a2,a3⟩;simp only[hop,qO,gT,h1];exact a1
  ·cases e
 ·rename_i hne;obtain⟨v,h',a1,a2,a3⟩:=q47 ho he e;refine⟨v,h',?_,a2,a3⟩;split
  ·rename_i f args ts hop;exact absurd hop (hne f args ts)
  ·rw[a1];rfl
end
end Go.Sv
namespace Go.Sv
open Go.Idl
variable {d:Option Tmp}{el:TypeId}{env:List SV}{h:SH}{o:Oper}{t:Ty}{v x:SV}
noncomputable section
variable [Gc]
variable [Frs]
variable [Yl]
variable {P:Program}{R:Type}{r:R}{tab:uU}{G:Nat->Bool}{nm:Nm}
omit [Yl] in
theorem zGJ {Q Q':List PV->PHp->Prop}(hq:∀ e p,Q e p->Q' e p):∀ {t:PT},t.holds P G Q->t.holds P G Q'
 | .fail,h=>h.elim
 | .ret e p,h=>hq e p h
 | .chk c t,h=>⟨h.1,zGJ hq h.2⟩
 | .call nm g args ph k,h=>by
   obtain⟨R,h1,h2⟩:=h;exact⟨R,h1,fun v p hr=>zGJ hq (h2 v p hr)⟩
 | .rnd _ _ _ _,h=>h.elim
omit [Yl] in
theorem qYY (k:Nat):∀ (cs:List FV),z8 k (cs.map .f)=true
 | []=>by simp[z8]
 | c::cs=>by simp[z8,noK,qYY k cs]
def qFT (k:Nat):List (Nat×SO)->Bool
 | []=>true
 | (_,.cells _ _ l)::r=>z8 k (qB l)&&qFT k r
 | (_,.list _ _ _ _ _ _)::r=>qFT k r
 | (_,.spc _ (.mit _ j _ _ _))::r=>!(k==j)&&qFT k r
 | (_,.spc _ (.map _))::r=>qFT k r
 | (_,.spc _ (.iter _ _))::r=>qFT k r
 | (_,.spc _ (.arr _ _ _))::r=>qFT k r
theorem qYI (k:Nat):∀ (l:List Nat),z8 k (l.map iv)=true
 | []=>by simp[z8]
 | c::cs=>by
   show (true&&z8 k (cs.map iv))=true;rw[qYI k cs];rfl
theorem qZ6 (k j si la:Nat)(seen:List Nat):z8 k (qF4 (.mp j) si la seen)=!(k==j):=by
 show (!(k==j)&&(true&&(true&&(z8 k (seen.map iv)&&true))))=_;rw[qYI];simp
theorem j3 {k:Nat}:∀ {l:List (Nat×SO)},qFT k l=true->aJ k (qC l)=true
 | [],_=>rfl
 | (j,.cells el w l)::r,h=>by
   simp only[qFT,zPK] at h;show (z8 k (qB l)&&aJ k (qC r))=true;rw[h.1,j3 h.2];rfl
 | (j,.list el gr g w t xs)::r,h=>by
   simp only[qFT] at h;show (z8 k ((xs.flatMap t.cells).map .f)&&aJ k (qC r))=true;rw[qYY,j3 h];rfl
 | (j,.spc w (.mit t i si la seen))::r,h=>by
   simp only[qFT,zPK] at h;show (z8 k (qF4 (.mp i) si la seen)&&aJ k (qC r))=true;rw[qZ6,h.1,j3 h.2];rfl
 | (j,.spc w (.map es))::r,h=>by
   simp only[qFT] at h;show (z8 k (kV _ _)&&aJ k (qC r))=true;rw[bD,j3 h];rfl
 | (j,.spc w (.iter s pos))::r,h=>by
   simp only[qFT] at h;show (z8 k (qBO s pos)&&aJ k (qC r))=true;rw[show z8 k (qBO s pos)=true from rfl,j3 h];rfl
 | (j,.spc w (.arr el ik xs))::r,h=>by
   simp only[qFT] at h;show (z8 k (xs.map fun x=>fvv (.int ik x))&&aJ k (qC r))=true;rw[show (xs.map fun x=>fvv (.int ik x))=(xs.map fun x=>FV.v (.int ik x)).map .f by rw[zRR];rfl,qYY,j3 h];rfl
def eH (env:List SV)(d:Option Tmp)(v:SV):List SV:=match d with
 | some t=>yS env t v
 | none=>env
theorem kH (env:List SV)(t:Nat)(v:SV):qB (yS env t v)=yS (qB env) t v.enc:=by
 rw[qW,qW,zH,zH,zTD]
theorem jI (env:List SV)(d:Option Tmp)(v:SV):qB (eH env d v)=yM (qB env) d v.enc:=by
 cases d with
 | none=>rfl
 | some t=>exact kH env t v
omit [Yl] in
theorem xK {t:Nat}(he:okL h env)(hv:v.ok h):okL h (yS env t v):=by
 rw[qW]
 exact zL.2 fun x hx=>by
  rcases List.mem_or_eq_of_mem_set hx with q | q
  ·exact zL.1 he x q
  ·rw[q];exact hv
omit [Yl] in
theorem wE (he:okL h env)(hv:v.ok h):okL h (eH env d v):=by
 cases d with
 | none=>exact he
 | some t=>exact xK he hv
omit [Yl] in
theorem j6 (env:List SV)(t:Nat)(v:SV):(yS env t v).length=env.length:=by rw[qW,zQM]
omit [Yl] in
theorem q3J (env:List SV)(d:Option Tmp)(v:SV):(eH env d v).length=env.length:=by
 cases d with
 | none=>rfl
 | some t=>exact j6 env t v
theorem qP5 {t:Nat}{w:SV}(h1:zJ env t=some v)(h2:w.enc=v.enc):qB (yS env t w)=qB env:=by
 rw[kH,qW];rw[qF] at h1;apply zQ1;intro i;rw[zQG];by_cases e:t=i
 ·subst e;rw[if_pos rfl,zH,zP0,h1,zPR,if_pos (zPQ.1 h1).1,h2];rfl
 ·rw[if_neg e]
def yL (b w:Bool):Bool:=cond w b (!b)
omit [Yl] in
theorem qRD (b w:Bool):yL b w=(b==w):=by cases b <;> cases w <;> rfl
def qDG (ds:List (Option Tmp))(o:Oper)(env:List SV)(Y N:List SV->zF6 R):zF6 R:=match o.guard with
 | none=>Y env
 | some (j,w)=>(match qTH ds j with
   | none=>N env
   | some t=>(match zJ env t with
     | none=>.fail
     | some v=>(match asB v with
       | some b=>.ite (yL b w) (Y (yS env t (.c (.bool w)))) (N (yS env t (.c (.bool (!w)))))
       | none=>(match v with
         | .tup []=>N env
         | _=>.fail))))
theorem rV {ds:List (Option Tmp)}{Y N:List SV->zF6 R}(he:okL h env)(e:(qDG ds o env Y N).run=some r) :
 ∃ env',qB env'=qB env∧okL h env'∧env'.length=env.length∧((vH ds o (qB env)=some true∧(Y env').run=some r)∨(vH ds o (qB env)=some false∧(N env').run=some r)):=by
 unfold qDG at e;unfold vH;split at e
 ·rename_i hg;exact⟨env,rfl,he,rfl,.inl ⟨by rw[hg],e⟩⟩
 ·rename_i j w hg;rw[hg];simp only;split at e
  ·rename_i hd;exact⟨env,rfl,he,rfl,.inr ⟨by rw[hd];rfl,e⟩⟩
  ·rename_i t hd;rw[hd];simp only[qNN,qX];split at e
   ·cases e
   ·rename_i v hv;rw[hv];split at e
    ·rename_i b hb;have hbe:=sS hb
     rcases run_ite e with ⟨z,e1⟩ | ⟨z,e1⟩
     ·rw[qRD] at z;have:b=w:=by simpa using z
      subst this;refine⟨_,qP5 hv (by rw[hbe];simp[SV.enc]),xK he (by simp[SV.ok]),j6 _ _ _,.inl ⟨?_,e1⟩⟩;simp only[zPZ,hbe,qCM,z]
     ·rw[qRD] at z
      have:b=!w:=by cases b <;> cases w <;> first | rfl | cases z
      refine⟨_,qP5 hv (by rw[hbe,this];simp[SV.enc]),xK he (by simp[SV.ok]),j6 _ _ _,.inr ⟨?_,e1⟩⟩;simp only[zPZ,hbe,qCM,z]
    ·split at e
     ·exact⟨env,rfl,he,rfl,.inr ⟨by simp only[zPZ,SV.enc,qB];exact qS4,e⟩⟩
     ·cases e
def qFJ (nm:Nm)(k:Nat)(env:List SV)(h:SH):Bool:=inP nm k&&(z8 k (qB env)&&qFT k h.l)
section
variable {Γ:Type}
def qZ3 (P:Program)(T:zT)(CI:CIT)(Y:YI Γ)(nm:Nm)(ds:List (Option Tmp)):List Oper->Γ->List SV->SH->(Γ->List SV->SH->zF6 R)->zF6 R
 | [],g,env,h,K=>K g env h
 | o::l,g,env,h,K=>qDG ds o env
    (fun env=>cond (cond (needs o.op) (qFJ nm (qI nm o.dst) env h) true) (q4M P T CI Y nm o g env h fun g v h'=>qZ3 P T CI Y nm ds l g (eH env o.dst v) h' K) .fail)
    (fun env=>qZ3 P T CI Y nm ds l g (eH env o.dst (.tup [])) h K)
end
def Ends (P:Program)(w:List (Option Tmp))(env:List SV)(h:SH)(env':List SV)(h':SH):Prop :=
 okL h' env'∧OkH P h'∧Keep h h'∧(∀ i,some i ∉ w->zJ (qB env') i=zJ (qB env) i)∧env'.length=env.length
theorem q7M {i:Nat}(h:d≠some i):zJ (qB (eH env d v)) i=zJ (qB env) i:=by
 cases d with
 | none=>rfl
 | some t =>
   show zJ (qB (yS env t v)) i=_;rw[kH,qW,qF,qF,zQG,if_neg (fun e=>h (by rw[e]))]
theorem Ends.step {w:List (Option Tmp)}{zGB:List SV}{h1:SH}{env':List SV}{h':SH}(he:qB env=qB zGB)(hl:env.length=zGB.length)(hk:Keep h h1)(x:Ends P w (eH env o.dst v) h1 env' h'):Ends P (o.dst::w) zGB h env' h' :=
 ⟨x.1,x.2.1,hk.trans x.2.2.1,fun i hi=>by
   rw[zP6,not_or] at hi
   rw[x.2.2.2.1 i hi.2,q7M (fun e=>hi.1 e.symm),he],by rw[x.2.2.2.2,q3J,hl]⟩
omit [Yl] in
theorem kU {Γ:Type}{w:Wld Γ}{Q Q':Γ->List PV->PHp->Prop}(hq:∀ g e p,Q g e p->Q' g e p):∀ {t:PT} {g:Γ},t.zG6 P G w Q g->t.zG6 P G w Q' g
 | .fail,_,h=>h.elim
 | .ret e p,g,h=>hq g e p h
 | .chk c t,g,h=>⟨h.1,kU hq h.2⟩
 | .call nm f args ph k,g,h=>by
   obtain⟨R,h1,h2⟩:=h;exact⟨R,h1,fun v p hr=>kU hq (h2 v p hr)⟩
 | .rnd l args ph k,g,h=>by
   obtain⟨zHD,tys,ph1,g',b,h1,h2,h3⟩:=h;exact⟨zHD,tys,ph1,g',b,h1,h2,kU hq h3⟩
def q1N (T:zT)(f:FuncId):Bool:=!(slT f T).isSome
theorem qG6 {Γ:Type}{w:Wld Γ}{T:zT}{CI:CIT}{Y:YI Γ}(ht:qRS tab T)(hci:qUY P G CI)(hy:YOk P G w Y){ds:List (Option Tmp)}:∀ {l:List Oper} {g:Γ} {env:List SV} {h:SH} {K:Γ->List SV->SH->zF6 R},OkH P h->okL h env->(qZ3 P T CI Y nm ds l g env h K).run=some r ->
 (pops P tab (q1N T) nm ds l (qB env) (qC h.l)).zG6 P G w (fun g e p=>∃ env' h',e=qB env'∧p=qC h'.l∧Ends P (l.map (·.dst)) env h env' h'∧(K g env' h').run=some r) g
 | [],g,env,h,K,ho,he,e=>⟨env,h,rfl,rfl,⟨he,ho,.refl _,fun _ _=>rfl,rfl⟩,e⟩
 | o::l,g,env,h,K,ho,he,e=>by
   unfold qZ3 at e;obtain⟨zGC,q1,q2,q3,q4⟩:=rV he e;rw[qX3]
   rcases q4 with ⟨hw,e1⟩ | ⟨hw,e1⟩
   ·rw[hw,q1K];obtain⟨c,e2⟩:=qE e1
    have next:∀ {g':Γ} {v:SV} {h':SH},Post P h h' v->(qZ3 P T CI Y nm ds l g' (eH zGC o.dst v) h' K).run=some r->(pops P tab (q1N T) nm ds l (yM (qB env) o.dst v.enc) (qC h'.l)).zG6 P G w (fun g e p=>∃ env' h',e=qB env'∧p=qC h'.l∧Ends P ((o::l).map (·.dst)) env h env' h'∧(K g env' h').run=some r) g':=fun {g' v h'} a2 a3=>by
     have ih:=qG6 ht hci hy a2.2.1 (wE (d:=o.dst) (qJ a2.1 q2) a2.2.2) a3;rw[jI,q1] at ih;exact kU (fun g e p ⟨env',h',b1,b2,b3,b4⟩=>⟨env',h',b1,b2,Ends.step q1 q3 a2.1 b3,b4⟩) ih
    have chk:∀ {g':Γ} {v:SV} {h':SH},Post P h h' v->(qZ3 P T CI Y nm ds l g' (eH zGC o.dst v) h' K).run=some r->(q9H (needs o.op) (qI nm o.dst) nm (qB env) (qC h.l) (pops P tab (q1N T) nm ds l (yM (qB env) o.dst v.enc) (qC h'.l))).zG6 P G w (fun g e p=>∃ env' h',e=qB env'∧p=qC h'.l∧Ends P ((o::l).map (·.dst)) env h env' h'∧(K g env' h').run=some r) g':=fun {g' v h'} a2 a3=>by
     unfold q9H
     cases hn:needs o.op with
     | false=>exact next a2 a3
     | true =>
       rw[hn] at c;simp only[cond_true] at c ⊢;refine⟨?_,next a2 a3⟩;unfold qFJ at c;rw[q1] at c;simp only[zPK] at c;unfold fresh;rw[c.1,c.2.1,j3 c.2.2];rfl
    unfold q4M at e2;split at e2
    ·rename_i f args ts hop
     have hpe:bC P tab (q1N T) (qI nm o.dst) o (qB env) (qC h.l)=pX P tab (q1N T) (kE zGC f).enc (qB (eP zGC args)) (qC h.l):=by
      unfold bC;rw[<-q1];simp only[hop,qO,gT]
     rw[hpe];have hfv:=nD q2 f;have has:=fD q2 args
     revert e2 hfv
     generalize kE zGC f=fv;intro e2 hfv;unfold q5J at e2;split at e2
     ·split at e2
      ·rename_i y h1 hd;obtain⟨p,hp,e3⟩:=run_bind e2;obtain⟨g',b⟩:=p;obtain⟨ys,a1,a2,a3,a4⟩:=eB ho has hd
       have:pX P tab (q1N T) (SV.enc .yv) (qB (eP zGC args)) (qC h.l)=.rnd Yl.l (qB (eP zGC args)) (qC h.l):=by
        simp only[SV.enc,pX]
       rw[this,qVM];refine⟨ys,Y.yt,qC h1.l,g',b,a1,?_,?_⟩
       ·rw[a2];exact hy _ _ _ _ hp
       ·have:=next (v:=.d .bool b) ⟨a3,a4,by simp[SV.ok]⟩ e3;simpa [SV.enc,Ty.fv,fvv] using this
      ·cases e2
     ·split at e2
      ·rename_i t as hst;obtain⟨h1,h2⟩:=dO hfv has hst;rw[qI4 h1];unfold mF q1N
       cases hsl:(slT t T).isSome with
       | true =>
         rw[hsl] at e2;simp only[cond_true] at e2;obtain⟨v,h',a1,a2,a3⟩:=q2I ht ho h2 e2;simp only[zTM,cond_false];rw[a1,qQH];exact chk a2 a3
       | false =>
         rw[hsl] at e2;simp only[cond_false] at e2;simp only[Bool.not_false,cond_true];rw[qSK];rw[q3Z,q1] at e2;refine⟨_,hci _ _ _ _ _ _ ho h2 e2,?_⟩;rintro v p ⟨v',h',rfl,rfl,a2,a3⟩;obtain⟨c2,a4⟩:=qE a3;have:=qIV c2;rw[q1] at this;exact⟨this,next a2 a4⟩
      ·cases e2
    ·rename_i hne;obtain⟨v,h',a1,a2,a3⟩:=q6F ho q2 e2;rw[q1] at a1
     have hpe:bC P tab (q1N T) (qI nm o.dst) o (qB env) (qC h.l)=.ok v.enc (qC h'.l):=by
      unfold bC;split
      ·rename_i f args ts hop;exact absurd hop (hne f args ts)
      ·rw[a1];rfl
     rw[hpe,qQH];exact chk a2 a3
   ·rw[hw,qYC];have ih:=qG6 ht hci hy ho (wE (d:=o.dst) (v:=.tup []) q2 (by simp[SV.ok,okL])) e1;rw[jI,q1] at ih;simp only[SV.enc,qB] at ih;exact kU (fun g e p ⟨env',h',b1,b2,b3,b4⟩=>⟨env',h',b1,b2,Ends.step q1 q3 (.refl _) b3,b4⟩) ih
def qWV (P:Program)(T:zT)(nm:Nm)(ds:List (Option Tmp))(b:DB)(zGB:List SV):Nat->List Oper->List SV->SH->List (Nat×List Nat)->List (Nat×List Nat)->List (Nat×Nat)->List (Nat×PV)->(List SV->SH->zF6 R)->zF6 R
 | i,[],env,h,E,F,N,V,K=>cond (nN b (qB zGB) E F N V) (K env h) .fail
 | i,o::l,env,h,E,F,N,V,K=>qDG ds o env
    (fun env=>cond (cond (needs o.op) (inP nm (qI nm o.dst)&&qFT (qI nm o.dst) h.l) true) (q18 P T true (qI nm o.dst) o env h fun v h' =>
      qWV P T nm ds b zGB (i+1) l (eH env o.dst v) h' (cond (zC o) ((i,wlT nm o (qB env))::E) E) (cond (zC o) F ((i,dlT o (qB env))::F)) (cond (needs o.op) ((i,qI nm o.dst)::N) N) ((i,v.enc)::V) K) .fail)
    (fun env=>qWV P T nm ds b zGB (i+1) l (eH env o.dst (.tup [])) h E F N ((i,.tup [])::V) K)
theorem qIN {T:zT}(ht:qRS tab T){ds:List (Option Tmp)}{b:DB}{zGB:List SV}:∀ {l:List Oper} {i:Nat} {env:List SV} {h:SH} {E F:List (Nat×List Nat)} {N:List (Nat×Nat)} {V:List (Nat×PV)} {K:List SV->SH->zF6 R},OkH P h->okL h env->(qWV P T nm ds b zGB i l env h E F N V K).run=some r ->
 (qL9 P tab nm ds b (qB zGB) i l (qB env) (qC h.l) E F N V).holds P G fun e p=>∃ env' h',e=qB env'∧p=qC h'.l∧Ends P (l.map (·.dst)) env h env' h'∧(K env' h').run=some r
 | [],i,env,h,E,F,N,V,K,ho,he,e=>by
   unfold qWV at e;obtain⟨c,e1⟩:=qE e;rw[q1D];exact⟨c,env,h,rfl,rfl,⟨he,ho,.refl _,fun _ _=>rfl,rfl⟩,e1⟩
 | o::l,i,env,h,E,F,N,V,K,ho,he,e=>by
   unfold qWV at e;obtain⟨zGC,q1,q2,q3,q4⟩:=rV he e;rw[qXO]
   rcases q4 with ⟨hw,e1⟩ | ⟨hw,e1⟩
   ·rw[hw,qVG];obtain⟨c,e2⟩:=qE e1;obtain⟨v,h',a1,a2,a3⟩:=qLY ht ho q2 e2;rw[q1] at a1;rw[a1,qZD];have ih:=qIN ht a2.2.1 (wE (d:=o.dst) (qJ a2.1 q2) a2.2.2) a3;rw[jI,q1] at ih;have ih2:=zGJ (Q':=fun e p=>∃ env' h',e=qB env'∧p=qC h'.l∧Ends P ((o::l).map (·.dst)) env h env' h'∧(K env' h').run=some r) (fun e p ⟨env',h',b1,b2,b3,b4⟩=>⟨env',h',b1,b2,Ends.step q1 q3 a2.1 b3,b4⟩) ih;unfold qB1
    cases hn:needs o.op with
    | false=>rw[hn] at ih2;exact ih2
    | true =>
      rw[hn] at c ih2;simp only[cond_true] at c ⊢;refine⟨?_,ih2⟩;rw[zPK] at c;rw[c.1,j3 c.2];rfl
   ·rw[hw,qS7];have ih:=qIN ht ho (wE (d:=o.dst) (v:=.tup []) q2 (by simp[SV.ok,okL])) e1;rw[jI,q1] at ih;simp only[SV.enc,qB] at ih;exact zGJ (fun e p ⟨env',h',b1,b2,b3,b4⟩=>⟨env',h',b1,b2,Ends.step q1 q3 (.refl _) b3,b4⟩) ih
def qLC (R:List Nat)(l:List (Nat×SO)):List (Nat×SO):=R.filterMap fun k=>(slk k l).map fun o=>(k,o)
theorem qB0 {l:List (Nat×SO)}:∀ (R:List Nat),qC (qLC R l)=aY R (qC l)
 | []=>rfl
 | k::R=>by
   have ih:=qB0 (l:=l) R;unfold qLC aY at ih ⊢;rw[zT3,zT3,vJ]
   cases hk:slk k l with
   | none=>simp only[zTZ];exact ih
   | some o =>
     simp only[zPZ];show (k,o.enc)::qC _=_;rw[ih]
def zEQ (b:Array Nat)(h0:List (Nat×SO))(zGB:List PV)(E F:List (Nat×List Nat))(N:List (Nat×Nat))(V:List (Nat×PV))(O:List (Nat×List (Nat×SO))):Bool :=
 (E.all fun e=>(E++F).all fun f=>Nat.beq e.1 f.1||(qPS b e.1 f.1||f.2.all fun l=>!e.2.contains l)) &&
   N.all fun n=>z8 n.2 zGB&&(qFT n.2 h0&&((V.all fun v=>Nat.beq v.1 n.1||(vQ b n.1 v.1||noK n.2 v.2))&&O.all fun c=>Nat.beq c.1 n.1||(vQ b n.1 c.1||qFT n.2 c.2)))
def q3I (O:List (Nat×List (Nat×SO))):List (Nat×PHp):=O.map fun c=>(c.1,qC c.2)
theorem q89 {b:Array Nat}{h0:List (Nat×SO)}{zGB:List PV}{E F:List (Nat×List Nat)}{N:List (Nat×Nat)}{V:List (Nat×PV)}{O:List (Nat×List (Nat×SO))}(h:zEQ b h0 zGB E F N V O=true):q9R b (qC h0) zGB E F N V (q3I O)=true:=by
 unfold zEQ at h;unfold q9R;rw[zPK] at h ⊢;refine⟨h.1,zPN.2 fun n hn=>?_⟩;have h2:=zPN.1 h.2 n hn;rw[zPK,zPK,zPK] at h2 ⊢;refine⟨h2.1,j3 h2.2.1,h2.2.2.1,zPN.2 fun c hc=>?_⟩;obtain⟨c0,hc0,rfl⟩:=zQB.1 hc;have h3:=zPN.1 h2.2.2.2 c0 hc0;rw[zQN,zQN] at h3 ⊢;rcases h3 with h | h | h
 ·exact .inl h
 ·exact .inr (.inl h)
 ·exact .inr (.inr (j3 h))
def q0A (l:List (Nat×SO)):PV->Bool
 | .own k _ _ _=>(match slk k l with
   | some (.list _ _ _ _ _ _)=>true
   | _=>false)
 | x=>qLI x
theorem qRE {l:List (Nat×SO)}{x:PV}(h:q0A l x=true):qJY (qC l) x=true:=by
 cases x with
 | own k t o n =>
   unfold q0A at h;unfold qJY;simp only at h ⊢;rw[vJ];split at h
   ·rename_i el gr g w u xs hk;rw[hk];simp only[zPZ];show (((List.flatMap u.cells xs).map PV.f).all qT1)=true;rw[zPN];intro z hz;obtain⟨y,_,rfl⟩:=zQB.1 hz;rfl
   ·cases h
 | _=>exact h
def qXS (o:Oper)(env:List PV):Bool:=match o.op with
 | .call ⟨.value f,args,_⟩=>(match target (qK env f) (args.toList.map (qK env)) with
   | some (g,_)=>(match Frs.fr g with
     | none=>true
     | some _=>false)
   | none=>true)
 | _=>true
theorem q2W {env:List PV}(h:qXS o env=true):pfr o env=none:=by
 cases hp:pfr o env with
 | none=>rfl
 | some q =>
   obtain⟨el,n,cs⟩:=q;obtain⟨f,args,ts,g,hop,ht,hg⟩:=qOV hp;unfold qXS at h;rw[hop] at h;simp only[ht,hg] at h;cases h
def sfr (o:Oper)(env:List SV):Option SV:=match o.op with
 | .call ⟨.value f,args,_⟩=>(match sG (kE env f) (eP env args) with
   | some (g,[.d (.list el t) xs])=>(match Frs.fr g with
     | some el'=>cond (Nat.beq el el') (some (.d (.list el t) xs)) none
     | none=>none)
   | _=>none)
 | _=>none
theorem zCN (he:okL h env)(e:sfr o env=some x):∃ el t,∃ xs:List (Ty.sem t),x=.d (.list el t) xs∧pfr o (qB env)=some (el,xs.length,xs.flatMap t.cells):=by
 unfold sfr at e;split at e
 case h_2=>cases e
 rename_i f args ts hop;split at e
 case h_2=>cases e
 rename_i g el t xs hst;split at e
 case h_2=>cases e
 rename_i el' hg
 cases hc:Nat.beq el el' with
 | false=>rw[hc] at e;cases e
 | true =>
   rw[hc] at e;cases e;obtain⟨h1,_⟩:=dO (nD he f) (fD he args) hst;refine⟨el,t,xs,rfl,?_⟩;unfold pfr;rw[hop];simp only[qO,gT,h1,qB,SV.enc,Ty.fv,hg,hc,cond_true]
def frT (P:Program)(el:TypeId)(w:Nat)(t:Ty):Bool:=match szT P el,t with
 | some (s+1),.int k=>Nat.beq w (s+1)&&(kZ P el&&decide (k=Frs.fk))
 | _,_=>false
theorem qXV {k:IntKind}:∀ (xs:List Int),(List.flatMap (Ty.int k).cells xs).all (isK k)=true
 | []=>rfl
 | x::xs=>by
   rw[zQC,zS9,qXV xs];simp[Ty.cells,isK]
theorem qU8 {xs:List t.sem}(h:frT P el t.w t=true)(hn:Nat.ble xs.length 1048576=true):qMH P el xs.length (xs.flatMap t.cells)=true:=by
 unfold frT at h;unfold qMH;split at h
 ·rename_i s k hs;rw[zPK,zPK] at h;have hw:=zPL h.1;have hk:k=Frs.fk:=of_decide_eq_true h.2.2;subst hk;rw[hs];have h1:(List.flatMap (Ty.int Frs.fk).cells xs).length=xs.length*(s+1):=by rw[zW,hw]
  have h2:(List.flatMap (Ty.int Frs.fk).cells xs).all (isK Frs.fk)=true:=qXV xs;show (Nat.beq (xs.length*(s+1)) (List.flatMap (Ty.int Frs.fk).cells xs).length&&(Nat.ble xs.length 1048576&&(kZ P el&&(List.flatMap (Ty.int Frs.fk).cells xs).all (isK Frs.fk))))=true;rw[h1,h2,hn,h.2.1,zTS];rfl
 ·cases h
theorem zD7 {w:Nat}(h:frT P el w t=true):szT P el=some w∧0 < w:=by
 unfold frT at h;split at h
 ·rename_i s k hs;rw[zPK] at h;have hw:=zPL h.1;rw[hw];exact⟨hs,Nat.succ_pos _⟩
 ·cases h
def zEI (P:Program)(el:TypeId)(t:Ty)(v:SV)(h:SH):Option SV:=match v with
 | .own k g _=>(match q3D el t k g (fun xs=>xs) h with
   | some (xs,_)=>some (.d (.list el t) xs)
   | none=>none)
 | .sl k g _ o m=>(match q3D el t k g (fun xs=>(xs.drop o).take m) h with
   | some (xs,_)=>some (.d (.list el t) xs)
   | none=>none)
 | _=>none
def scp (P:Program)(o:Oper)(env:List SV)(h:SH):Option SV:=match o.op with
 | .call ⟨.value f,args,_⟩=>(match sG (kE env f) (eP env args) with
   | some (g,[v])=>(match Frs.fr g with
     | some el=>(match qDK P 8 el with
       | some t=>zEI P el t v h
       | none=>none)
     | none=>none)
   | _=>none)
 | _=>none
theorem q6B {t:Ty}(ho:OkH P h)(hv:v.ok h)(e:zEI P el t v h=some x):∃ xs:List t.sem,x=.d (.list el t) xs∧(∃ ph1,fzA P [v.enc] (qC h.l)=some ([.f (.l el xs.length (xs.flatMap t.cells))],ph1))∧∃ k t' o n,v.enc=.own k t' o n:=by
 have key:∀ {k n o m:Nat} {xs:List t.sem} {ph1:PHp},fz1 P 4 (qC h.l) (.own k n o m)=some ((Ty.list el t).fv xs,ph1)->fzA P [.own k n o m] (qC h.l)=some ([.f (.l el xs.length (xs.flatMap t.cells))],ph1):=fun {k n o m xs ph1} hz=>by
  unfold fzA fzP;simp only[hz,fzA];rfl
 unfold zEI at e;split at e
 ·rename_i k g n;split at e
  ·rename_i xs h' hd;cases e;simp only[SV.ok] at hv;obtain⟨h1,_⟩:=qIJ (ty:=0) (n:=n) (o:=0) (m:=n) ho hv (by omega) (fun xs hl=>by rw[zQ4,<-hl,zSB]) hd;exact⟨xs,rfl,⟨_,by simp only[SV.enc];exact key h1⟩,_,_,_,_,by simp only[SV.enc];rfl⟩
  ·cases e
 ·rename_i k g n o m;split at e
  ·rename_i xs h' hd;cases e;simp only[SV.ok] at hv;obtain⟨h1,_⟩:=qIJ (ty:=0) (n:=n) (o:=o) (m:=m) ho hv.1 hv.2 (fun xs hl=>rfl) hd;exact⟨xs,rfl,⟨_,by simp only[SV.enc];exact key h1⟩,_,_,_,_,by simp only[SV.enc];rfl⟩
  ·cases e
 ·cases e
theorem q9X (ho:OkH P h)(he:okL h env)(e:scp P o env h=some x):∃ el t,∃ xs:List (Ty.sem t),x=.d (.list el t) xs∧pfr o (qB env)=none∧(∃ f args ts,o.op=.call ⟨.value f,args,ts⟩) ∧
 (qMH P el xs.length (xs.flatMap t.cells)=true->pcp P o (qB env) (qC h.l)=some (.l el xs.length (xs.flatMap t.cells))):=by
 unfold scp at e;split at e
 case h_2=>cases e
 rename_i f args ts hop;split at e
 case h_2=>cases e
 rename_i g v hst;split at e
 case h_2=>cases e
 rename_i el hg;split at e
 case h_2=>cases e
 rename_i t ht;obtain⟨h1,h2⟩:=dO (nD he f) (fD he args) hst;simp only[okL] at h2;obtain⟨xs,rfl,⟨ph1,hz⟩,k,t',o',n',hv⟩:=q6B ho h2.1 e
 have htg:target (qK (qB env) f) (args.toList.map (qK (qB env)))=some (g,[v.enc]):=by
  simp only[qO,gT,h1,qB]
 refine⟨el,t,xs,rfl,?_,⟨f,args,ts,hop⟩,fun hfo=>?_⟩
 ·unfold pfr;rw[hop];simp only[htg,hv]
 ·unfold pcp;rw[hop];simp only[htg,hg,hz];unfold zC6;simp only[hfo,show Nat.beq el el=true by simp,zQE,cond_true]
theorem q25 {env:List PV}{ph:PHp}(h:qXS o env=true):pcp P o env ph=none:=by
 cases hq:pcp P o env ph with
 | none=>rfl
 | some y =>
   obtain⟨f,args,ts,g,as,el,n,cs,p1,hop,ht,hg,_⟩:=sO hq;unfold qXS at h;rw[hop] at h;simp only[ht,hg] at h;cases h
def zE1 (ops:Array Oper):Bool:=ops.toList.any fun o=>match o.op with
 | .call ⟨.value (.func g),_,_⟩=>(Frs.fr g).isSome
 | _=>false
def qD9 (P:Program)(T:zT)(nm:Nm)(ds:List (Option Tmp))(b:Array Nat)(zGB:List SV)(h0:SH):Nat->List Oper->List SV->SH->List (Nat×List Nat)->List (Nat×List Nat)->List (Nat×Nat)->List (Nat×PV)->List (Nat×List (Nat×SO))->(List SV->SH->zF6 R)->zF6 R
 | i,[],env,h,E,F,N,V,O,K=>cond (zEQ b h0.l (qB zGB) E F N V O) (K env h) .fail
 | i,o::l,env,h,E,F,N,V,O,K=>qDG ds o env
    (fun env=>match scp P o env h with
     | some (.d (.list el t) xs)=>cond (frT P el t.w t&&(oP o (qB env)).all (q0A h.l)) (.ite (Nat.ble xs.length 1048576)
        (qD9 P T nm ds b zGB h0 (i+1) l (eH env o.dst (.d (.list el t) xs)) h E ((i,dlC o (qB env))::F) N ((i,(SV.d (.list el t) xs).enc)::V) O K) .fail) .fail
     | some _=>.fail
     | none=>match sfr o env with
      | some (.d (.list el t) xs)=>cond (frT P el t.w t&&inP nm (qI nm o.dst)) (.ite (Nat.beq xs.length 0)
         (qD9 P T nm ds b zGB h0 (i+1) l (eH env o.dst (.d (.list el t) [])) h E ((i,dlC o (qB env))::F) N ((i,.f (.l el 0 []))::V) O K)
         (.ite (Nat.ble xs.length 1048576)
           (qD9 P T nm ds b zGB h0 (i+1) l (eH env o.dst (.own (qI nm o.dst) h.next xs.length)) (h.new (qI nm o.dst) fun v=>.list el true v v t xs) ((i,[qI nm o.dst])::E) F ((i,qI nm o.dst)::N) ((i,.own (qI nm o.dst) xs.length 0 xs.length)::V)
             ((i,qLC [qI nm o.dst] (h.new (qI nm o.dst) fun v=>.list el true v v t xs).l)::O) K) .fail)) .fail
      | some _=>.fail
      | none=>cond ((qXS o (qB env)&&(okE o||(!zC o||kG o)))&&((oP o (qB env)).all (q0A h.l)&&cond (needs o.op) (inP nm (qI nm o.dst)) true)) (q18 P T true (qI nm o.dst) o env h fun v h' =>
      qD9 P T nm ds b zGB h0 (i+1) l (eH env o.dst v) h' (cond (okE o) ((i,RC o (qI nm o.dst) (qB env))::E) E) (cond (okE o) F ((i,dlC o (qB env))::F)) (cond (needs o.op) ((i,qI nm o.dst)::N) N) ((i,v.enc)::V) (cond (okE o) ((i,qLC (RC o (qI nm o.dst) (qB env)) h'.l)::O) O) K) .fail)
    (fun env=>qD9 P T nm ds b zGB h0 (i+1) l (eH env o.dst (.tup [])) h E F N ((i,.tup [])::V) O K)
theorem cZ {T:zT}(ht:qRS tab T){ds:List (Option Tmp)}{b:Array Nat}{zGB:List SV}{h0:SH}:∀ {l:List Oper} {i:Nat} {env:List SV} {h:SH} {E F:List (Nat×List Nat)} {N:List (Nat×Nat)} {V:List (Nat×PV)} {O:List (Nat×List (Nat×SO))} {K:List SV->SH->zF6 R},OkH P h->okL h env->(qD9 P T nm ds b zGB h0 i l env h E F N V O K).run=some r ->
 (qLX P tab nm ds b (qB zGB) (qC h0.l) i l (qB env) (qC h.l) E F N V (q3I O)).holds P G fun e p=>∃ env' h',e=qB env'∧p=qC h'.l∧Ends P (l.map (·.dst)) env h env' h'∧(K env' h').run=some r
 | [],i,env,h,E,F,N,V,O,K,ho,he,e=>by
   unfold qD9 at e;obtain⟨c,e1⟩:=qE e;exact⟨q89 c,env,h,rfl,rfl,⟨he,ho,.refl _,fun _ _=>rfl,rfl⟩,e1⟩
 | o::l,i,env,h,E,F,N,V,O,K,ho,he,e=>by
   unfold qD9 at e;obtain⟨zGC,q1,q2,q3,q4⟩:=rV he e;unfold qLX vK
   rcases q4 with ⟨hw,e1⟩ | ⟨hw,e1⟩
   ·rw[hw];simp only;split at e1
    ·rename_i el t xs hsc;obtain⟨el',t',xs',hx,hpf,⟨f,args,ts,hop⟩,hcp⟩:=q9X ho q2 hsc;cases hx;rw[q1] at hpf hcp;obtain⟨c,e2⟩:=qE e1;rw[zPK] at c
     rcases run_ite e2 with ⟨z,e3⟩ | ⟨_,e3⟩
     ·have hcp:=hcp (qU8 c.1 z);have c2:xH o (qB env) (qC h.l)=true:=zPN.2 fun x hx=>qRE (zPN.1 c.2 x (by rw[q1];exact hx))
      have hfr:qEH o (qB env)=false:=by unfold qEH;rw[hpf]
      have zIX:okF o (qB env)=false:=by unfold okF okE;rw[hop,hfr];rfl
      have zIY:ndF o (qB env)=false:=by unfold ndF needs;rw[hop,hfr];rfl
      rw[tQ hpf hcp c2];simp only[zIX,zIY,cond_false];unfold qB1;simp only[cond_false];have ih:=cZ ht ho (wE (d:=o.dst) (v:=.d (.list el t) xs) q2 (by simp[SV.ok])) e3;rw[jI,q1] at ih;exact zGJ (Q':=fun e p=>∃ env' h',e=qB env'∧p=qC h'.l∧Ends P ((o::l).map (·.dst)) env h env' h'∧(K env' h').run=some r) (fun e p ⟨env',h',b1,b2,b3,b4⟩=>⟨env',h',b1,b2,Ends.step q1 q3 (.refl _) b3,b4⟩) ih
     ·cases e3
    ·cases e1
    split at e1
    ·rename_i el t xs hsf;obtain⟨el',t',xs',hx,hpf⟩:=zCN q2 hsf;cases hx;rw[q1] at hpf;obtain⟨c,e2⟩:=qE e1;rw[zPK] at c;obtain⟨p1,p2⟩:=qKU hpf
     rcases run_ite e2 with ⟨z,e3⟩ | ⟨z,e3⟩
     ·have z0:xs=[]:=zSW (zPL z);subst z0;have hfr:qEH o (qB env)=false:=by unfold qEH;rw[hpf];rfl
      have zIX:okF o (qB env)=false:=by unfold okF;rw[p1,hfr];rfl
      have zIY:ndF o (qB env)=false:=by unfold ndF;rw[p2,hfr];rfl
      rw[pO hpf (qU8 c.1 rfl)];simp only[zIX,zIY,cond_false];unfold qB1;simp only[cond_false];have ih:=cZ ht ho (wE (d:=o.dst) (v:=.d (.list el t) []) q2 (by simp[SV.ok])) e3;rw[jI,q1] at ih;exact zGJ (Q':=fun e p=>∃ env' h',e=qB env'∧p=qC h'.l∧Ends P ((o::l).map (·.dst)) env h env' h'∧(K env' h').run=some r) (fun e p ⟨env',h',b1,b2,b3,b4⟩=>⟨env',h',b1,b2,Ends.step q1 q3 (.refl _) b3,b4⟩) ih
     ·rcases run_ite e3 with ⟨z2,e4⟩ | ⟨z2,e4⟩
      ·cases hn:xs.length with
       | zero=>rw[hn] at z;cases z
       | succ n =>
       rw[hn] at hpf;have hfr:qEH o (qB env)=true:=by unfold qEH;rw[hpf]
       have zIX:okF o (qB env)=true:=by unfold okF;rw[hfr,zT0]
       have zIY:ndF o (qB env)=true:=by unfold ndF;rw[hfr,zT0]
       have hRF:RF o (qI nm o.dst) (qB env)=[qI nm o.dst]:=by unfold RF;rw[hfr];rfl
       have hfo:=qU8 c.1 z2;rw[hn] at hfo;rw[pO hpf hfo];simp only[zIX,zIY,hRF,cond_true];unfold qB1;simp only[cond_true];have hnw:=xL (k:=qI nm o.dst) (f:=fun v=>.list el true v v t xs) ho ⟨rfl,rfl,zD7 c.1⟩;have ih:=cZ ht hnw.2 (wE (d:=o.dst) (v:=.own (qI nm o.dst) h.next xs.length) (qJ hnw.1 q2) (w9 rfl)) e4;rw[jI,q1] at ih;have ih2:=zGJ (Q':=fun e p=>∃ env' h',e=qB env'∧p=qC h'.l∧Ends P ((o::l).map (·.dst)) env h env' h'∧(K env' h').run=some r) (fun e p ⟨env',h',b1,b2,b3,b4⟩=>⟨env',h',b1,b2,Ends.step q1 q3 hnw.1 b3,b4⟩) ih
       have eO:q3I ((i,qLC [qI nm o.dst] (h.new (qI nm o.dst) fun v=>.list el true v v t xs).l)::O)=(i,aY [qI nm o.dst] (qC (h.new (qI nm o.dst) fun v=>.list el true v v t xs).l))::q3I O:=by
        show (i,qC (qLC _ _))::q3I O=_;rw[qB0]
       rw[eO] at ih2;simp only[SV.enc,hn] at ih2;exact⟨c.2,ih2⟩
      ·cases e4
    ·cases e1
    rename_i hsf;obtain⟨c,e2⟩:=qE e1;rw[zPK,zPK,zPK] at c;have hpf:pfr o (qB env)=none:=by rw[<-q1];exact q2W c.1.1
    have hfr:qEH o (qB env)=false:=by unfold qEH;rw[hpf]
    have zIX:okF o (qB env)=okE o:=by unfold okF;rw[hfr,zTN]
    have zIY:ndF o (qB env)=needs o.op:=by unfold ndF;rw[hfr,zTN]
    have hRF:RF o (qI nm o.dst) (qB env)=RC o (qI nm o.dst) (qB env):=by unfold RF;rw[hfr];rfl
    obtain⟨v,h',a1,a2,a3⟩:=qLY ht ho q2 e2;rw[q1] at a1;have c2:xH o (qB env) (qC h.l)=true:=zPN.2 fun x hx=>qRE (zPN.1 c.2.1 x (by rw[q1];exact hx))
    rw[o8 hpf (q25 (by rw[<-q1];exact c.1.1)) a1 c.1.2 c2];simp only[zIX,zIY,hRF];have ih:=cZ ht a2.2.1 (wE (d:=o.dst) (qJ a2.1 q2) a2.2.2) a3;rw[jI,q1] at ih;have ih2:=zGJ (Q':=fun e p=>∃ env' h',e=qB env'∧p=qC h'.l∧Ends P ((o::l).map (·.dst)) env h env' h'∧(K env' h').run=some r) (fun e p ⟨env',h',b1,b2,b3,b4⟩=>⟨env',h',b1,b2,Ends.step q1 q3 a2.1 b3,b4⟩) ih
    have eO:q3I (cond (okE o) ((i,qLC (RC o (qI nm o.dst) (qB env)) h'.l)::O) O)=cond (okE o) ((i,aY (RC o (qI nm o.dst) (qB env)) (qC h'.l))::q3I O) (q3I O):=by
     cases okE o with
     | false=>rfl
     | true =>
       show (i,qC (qLC _ _))::q3I O=_;rw[qB0];rfl
    rw[eO] at ih2;unfold qB1
    cases hn:needs o.op with
    | false=>rw[hn] at ih2;exact ih2
    | true =>
      have c3:=c.2.2;rw[hn] at c3 ih2;simp only[cond_true] at c3 ⊢;exact⟨c3,ih2⟩
   ·rw[hw];simp only;have ih:=cZ ht ho (wE (d:=o.dst) (v:=.tup []) q2 (by simp[SV.ok,okL])) e1;rw[jI,q1] at ih;simp only[SV.enc,qB] at ih;exact zGJ (fun e p ⟨env',h',b1,b2,b3,b4⟩=>⟨env',h',b1,b2,Ends.step q1 q3 (.refl _) b3,b4⟩) ih
def qRH (ops:Array Oper):Bool:=match ops[ops.size - 1]? with
 | some o=>(match o.op with
   | .call ⟨.value _,_,_⟩=>(List.range (ops.size - 1)).all fun i=>vQ (Region.before ops) i (ops.size - 1)
   | _=>false)
 | none=>false
def zEO {Γ:Type}(P:Program)(G:Nat->Bool)(T:zT)(CI:CIT)(Y:YI Γ)(nm:Nm)(ops:Array Oper)(d:Bool)(g:Γ)(env:List SV)(h:SH)(K:Γ->List SV->SH->zF6 R):zF6 R :=
 cond (gD G ops) (cond d (cond (aP ops&&aG ops&&!(zE1 ops&&mZ ops)) (cond (qRH ops)
  (qWV P T nm (ops.toList.map (·.dst)) (dBo ops) env 0 (ops.toList.take (ops.size - 1)) env h [] [] [] [] fun env h=>qZ3 P T CI Y nm (ops.toList.map (·.dst)) (ops.toList.drop (ops.size - 1)) g env h K)
  (qWV P T nm (ops.toList.map (·.dst)) (dBo ops) env 0 ops.toList env h [] [] [] [] (K g))) (cond (mZ ops) (qD9 P T nm (ops.toList.map (·.dst)) (Region.before ops) env h 0 ops.toList env h [] [] [] [] [] (K g)) .fail)) (qZ3 P T CI Y nm (ops.toList.map (·.dst)) ops.toList g env h K)) .fail
variable {nat:xI}{good:FuncId->Bool}{rd:Bool}
theorem q6T [zGT P G]{Γ:Type}{w:Wld Γ}{T:zT}{CI:CIT}{Y:YI Γ}(s:zG4 P good nat G tab)(ht:qRS tab T)(hci:qUY P G CI)(hy:YOk P G w Y){id:Nat}{ops:Array Oper}{d:Bool}{g:Γ}{K:Γ->List SV->SH->zF6 R}(ho:OkH P h)(he:okL h env)(e:(zEO P G T CI Y nm ops d g env h K).run=some r) :
 qR P G rd nm w (.region id ops d) g (qB env) (qC h.l) fun x g' pe ph=>x=.normal∧∃ env' h',pe=qB env'∧ph=qC h'.l∧Ends P (ops.toList.map (·.dst)) env h env' h'∧(K g' env' h').run=some r:=by
 unfold zEO at e;obtain⟨c1,e1⟩:=qE e
 cases d with
 | true =>
   cases hc2:(aP ops&&aG ops&&!(zE1 ops&&mZ ops)) with
   | false =>
     rw[hc2] at e1;obtain⟨c3,e2⟩:=qE (show (cond (mZ ops) (qD9 P T nm (ops.toList.map (·.dst)) (Region.before ops) env h 0 ops.toList env h [] [] [] [] [] (K g)) .fail:zF6 R).run=some r from e1);refine (qR.of (s.zNW (Q:=fun x pe ph=>x=.normal∧∃ env' h',pe=qB env'∧ph=qC h'.l∧Ends P (ops.toList.map (·.dst)) env h env' h'∧(K g env' h').run=some r) c1 c3 ?_)).mono ?_
     ·exact zGJ (fun e p hq=>⟨rfl,hq⟩) (cZ (G:=G) (O:=[]) ht ho he e2)
     ·rintro x g' pe ph ⟨rfl,hq⟩;exact hq
   | true =>
   have c2:=hc2;rw[hc2] at e1
   have e2:(cond (qRH ops)
    (qWV P T nm (ops.toList.map (·.dst)) (dBo ops) env 0 (ops.toList.take (ops.size - 1)) env h [] [] [] [] fun env h=>qZ3 P T CI Y nm (ops.toList.map (·.dst)) (ops.toList.drop (ops.size - 1)) g env h K)
    (qWV P T nm (ops.toList.map (·.dst)) (dBo ops) env 0 ops.toList env h [] [] [] [] (K g)):zF6 R).run=some r:=e1
   rw[zPK,zPK] at c2;have c2:=c2.1
   cases hlo:qRH ops with
   | false =>
     rw[hlo] at e2;have e2:(qWV P T nm (ops.toList.map (·.dst)) (dBo ops) env 0 ops.toList env h [] [] [] [] (K g)).run=some r:=e2;refine (qR.of (s.zNQ (Q:=fun x pe ph=>x=.normal∧∃ env' h',pe=qB env'∧ph=qC h'.l∧Ends P (ops.toList.map (·.dst)) env h env' h'∧(K g env' h').run=some r) c1 c2.1 c2.2 rfl rfl ?_)).mono ?_
     ·exact zGJ (fun e p hq=>⟨rfl,hq⟩) (qIN (G:=G) ht ho he e2)
     ·rintro x g' pe ph ⟨rfl,hq⟩;exact hq
   | true =>
     rw[hlo] at e2;have e2:(qWV P T nm (ops.toList.map (·.dst)) (dBo ops) env 0 (ops.toList.take (ops.size - 1)) env h [] [] [] [] fun env h=>qZ3 P T CI Y nm (ops.toList.map (·.dst)) (ops.toList.drop (ops.size - 1)) g env h K).run=some r:=e2;unfold qRH at hlo;split at hlo
     ·rename_i o hop;split at hlo
      ·have hlt:=(zPW.1 hop).1
       have hdrop:ops.toList.drop (ops.size - 1)=[o]:=by
        have h1:ops.toList[ops.size - 1]?=some o:=by simpa using hop
        obtain⟨h2,h3⟩:=zPQ.1 h1;rw[zSI h2,h3,List.drop_eq_nil_of_le (by simp;omega)]
       have hmap:(ops.toList.take (ops.size - 1)).map (·.dst)++[o.dst]=ops.toList.map (·.dst):=by
        rw[show [o.dst]=[o].map (·.dst) from rfl,<-zQX,<-hdrop,zTP]
       refine s.zNT (inl:=q1N T) (n0:=ops.size - 1) c1 c2.1 c2.2 hop (by omega) (fun i hi=>zPN.1 hlo i (zSK.2 hi)) ?_;refine zGJ (fun e p hq=>?_) (qIN (G:=G) ht ho he e2);obtain⟨zGC,h1,rfl,rfl,a3,a4⟩:=hq;rw[hdrop] at a4;refine kU (fun g2 e p hq=>?_) (qG6 (G:=G) ht hci hy a3.2.1 a3.1 a4);obtain⟨zGN,h2,rfl,rfl,b3,b4⟩:=hq;refine⟨rfl,zGN,h2,rfl,rfl,⟨b3.1,b3.2.1,a3.2.2.1.trans b3.2.2.1,fun i hi=>?_,b3.2.2.2.2.trans a3.2.2.2.2⟩,b4⟩;rw[<-hmap,zQR,not_or] at hi;exact (b3.2.2.2.1 i hi.2).trans (a3.2.2.2.1 i hi.1)
      ·cases hlo
     ·cases hlo
 | false=>exact s.zNS c1 (kU (fun g e p hq=>⟨rfl,hq⟩) (qG6 (G:=G) ht hci hy ho he e1))
end
end Go.Sv
