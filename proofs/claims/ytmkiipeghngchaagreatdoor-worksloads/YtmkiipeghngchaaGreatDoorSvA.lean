/- A symbolic run, part one. Conditions: none. -/
import Derived.Test.YtmkiipeghngchaaGreatDoorPur23
set_option linter.all false
namespace Go.Sv
open Go.Idl
variable {el:TypeId}{j n off:Nat}{k:IntKind}
class Yl where
 l:Nat
variable [Gc]
variable {P:Program}{Z Z':Nat->Prop}{H:IH}{M:Nat->Option (Nat×PO)}
inductive Ty where
 | int (k:IntKind)
 | bool
 | str
 | unit
 | list (el:TypeId) (t:Ty)
 | pair (a b:Ty)
 | raw
 | ol (el:TypeId) (k:IntKind)
 | nif deriving DecidableEq
@[reducible] def Ty.sem:Ty->Type
  | .int _=>Int
  | .bool=>Bool
  | .str=>ByteArray
  | .unit=>Unit
  | .list _ t=>List t.sem
  | .pair a b=>a.sem×b.sem
  | .raw=>List (Value×Value)
  | .ol _ _=>List Int
  | .nif=>Unit
def eD (l:List (Value×Value)):List FV:=List.flatMap (fun p=>[.v p.1,.v p.2]) l
def fvo (el:TypeId)(k:IntKind):List Int->FV
 | []=>.v (.slice none 0 0)
 | x::xs=>.l el (xs.length+1) (List.flatMap (fun i=>[FV.v (.int k i)]) (x::xs))
def Ty.cells:(t:Ty)->t.sem->List FV
 | .int k,x=>[.v (.int k x)]
 | .bool,x=>[.v (.bool x)]
 | .str,x=>[.v (.string x)]
 | .unit,_=>[]
 | .list el t,xs=>[.l el (List.length xs) (List.flatMap t.cells xs)]
 | .pair a b,x=>a.cells x.1++b.cells x.2
 | .raw,xs=>[.l 1000000001 (List.length xs) (eD xs)]
 | .ol el k,xs=>[fvo el k xs]
 | .nif,_=>[.v .nilIface]
def Ty.w:Ty->Nat
 | .int _ | .bool | .str | .list _ _ | .raw | .ol _ _ | .nif=>1
 | .unit=>0
 | .pair a b=>a.w+b.w
def Ty.nol:Ty->Bool
 | .ol _ _=>false
 | .pair a b=>a.nol&&b.nol
 | _=>true
def Ty.one:Ty->Bool
 | .unit=>false
 | .pair _ _=>false
 | _=>true
def Ty.fv:(t:Ty)->t.sem->FV
 | .int k,x=>.v (.int k x)
 | .bool,x=>.v (.bool x)
 | .str,x=>.v (.string x)
 | .list el t,xs=>.l el (List.length xs) (List.flatMap t.cells xs)
 | .raw,xs=>.l 1000000001 (List.length xs) (eD xs)
 | .ol el k,xs=>fvo el k xs
 | .nif,_=>.v .nilIface
 | _,_=>.v undef
theorem Ty.cells_one:∀ {t:Ty} {x:t.sem},t.one=true->t.cells x=[t.fv x]
 | .int _,_,_=>rfl
 | .bool,_,_=>rfl
 | .str,_,_=>rfl
 | .list _ _,_,_=>rfl
 | .raw,_,_=>rfl
 | .ol _ _,_,_=>rfl
 | .nif,_,_=>rfl
 | .unit,_,h=>by cases h
 | .pair _ _,_,h=>by cases h
theorem Ty.zEZ:∀ (t:Ty) (x:t.sem),(t.cells x).length=t.w
 | .int _,_=>rfl
 | .bool,_=>rfl
 | .str,_=>rfl
 | .list _ _,_=>rfl
 | .raw,_=>rfl
 | .ol _ _,_=>rfl
 | .nif,_=>rfl
 | .unit,_=>rfl
 | .pair a b,x=>by
   show (a.cells x.1++b.cells x.2).length=a.w+b.w;rw[zOW,a.zEZ,b.zEZ]
theorem zV {t:Ty}:∀ (xs:List t.sem),(xs.flatMap t.cells).length=xs.length*t.w
 | []=>by simp
 | x::xs=>by rw[zO1,zOW,t.zEZ,zV xs,zOU,zQ2,zQ1]
theorem gU {t:Ty}:∀ (xs:List t.sem) (j:Nat),(xs.flatMap t.cells).drop (j*t.w)=(xs.drop j).flatMap t.cells
 | xs,0=>by simp
 | [],j+1=>by simp
 | x::xs,j+1=>by
   rw[zO1,List.drop_succ_cons,<-gU xs j,zQ2,zQ1,<-zR1]
   congr 1
   rw[List.drop_append_of_le_length (by rw[t.zEZ];exact zOA _),zR7 (by rw[t.zEZ];exact zOA _),List.nil_append]
theorem gK {t:Ty}:∀ (xs:List t.sem) (j:Nat),(xs.flatMap t.cells).take (j*t.w)=(xs.take j).flatMap t.cells
 | xs,0=>by simp
 | [],j+1=>by simp
 | x::xs,j+1=>by
   rw[zO1,zQF,zO1,<-gK xs j,zQ2,zQ1,List.take_append,t.zEZ,zR2,zO2 (by rw[t.zEZ];omega)]
theorem qYQ {t:Ty}{xs:List t.sem}{x:t.sem}(h:xs[j]?=some x):((xs.flatMap t.cells).drop (j*t.w)).take t.w=t.cells x:=by
 rw[gU]
 have hj:=(zOE.1 h)
 obtain⟨hl,hx⟩:=hj;rw[zQ7 hl,hx,zO1,List.take_append_of_le_length (by rw[t.zEZ];exact zOA _),zO2 (by rw[t.zEZ];exact zOA _)]
theorem qI2 {t:Ty}{xs:List t.sem}{x:t.sem}(h:xs[j]?=some x)(hn:off+n<=t.w):((xs.flatMap t.cells).drop (j*t.w+off)).take n=((t.cells x).drop off).take n:=by
 rw[<-qYQ h,List.drop_take,zR1,zRM,zP2 (by omega)]
theorem flat_get {t:Ty}{xs:List t.sem}{x:t.sem}(h:xs[j]?=some x)(hn:off < t.w):(xs.flatMap t.cells)[j*t.w+off]?=(t.cells x)[off]?:=by
 rw[<-qYQ h,zP0,if_pos hn,zP4]
theorem qGJ {t:Ty}{xs:List t.sem}{x:t.sem}(h:xs[j]?=some x)(hn:off+n<=t.w):j*t.w+off+n<=(xs.flatMap t.cells).length:=by
 have hl:=(zOE.1 h).1;rw[zV];have:(j+1)*t.w<=xs.length*t.w:=zPF _ hl;rw[zQ2] at this;omega
theorem qKB:∀ (xs ys:List (Value×Value)),eD xs=eD ys->xs=ys
 | [],[],_=>rfl
 | [],y::ys,h=>by cases h
 | x::xs,[],h=>by cases h
 | x::xs,y::ys,h=>by
   have h:FV.v x.1::FV.v x.2::eD xs=FV.v y.1::FV.v y.2::eD ys:=h;injection h with h1 h2;injection h2 with h2 h3;injection h1 with h1;injection h2 with h2;rw[qKB xs ys h3,Prod.ext h1 h2]
theorem qA0:∀ (xs:List (Value×Value)),(eD xs).length=2*xs.length
 | []=>rfl
 | x::xs=>by
   show (eD xs).length+2=_;rw[qA0 xs,zOU];omega
theorem qPZ:∀ (xs ys:List (Value×Value)) (vs:List Value),FRL Z H (eD xs) vs->FRL Z' H (eD ys) vs->xs=ys
 | [],[],_,_,_=>rfl
 | [],y::ys,vs,a,b=>by have:=a.len;have:=b.len;simp[eD] at *;omega
 | x::xs,[],vs,a,b=>by have:=a.len;have:=b.len;simp[eD] at *;omega
 | x::xs,y::ys,vs,a,b=>by
   have a:FRL Z H (FV.v x.1::FV.v x.2::eD xs) vs:=a;have b:FRL Z' H (FV.v y.1::FV.v y.2::eD ys) vs:=b;obtain⟨v,vs',rfl,a1,a2⟩:=a.zES;obtain⟨v',vs2,e,b1,b2⟩:=b.zES;cases e;obtain⟨w,vs3,rfl,a3,a4⟩:=a2.zES;obtain⟨w',vs4,e,b3,b4⟩:=b2.zES;cases e;have e1:=(qLY a1).symm.trans (qLY b1);have e2:=(qLY a3).symm.trans (qLY b3);rw[qPZ xs ys _ a4 b4,Prod.ext e1 e2]
theorem qQP {k:IntKind}:∀ (xs ys:List Int),List.flatMap (fun i=>[FV.v (.int k i)]) xs=List.flatMap (fun i=>[FV.v (.int k i)]) ys->xs=ys
 | [],[],_=>rfl
 | [],y::ys,h=>by simp at h
 | x::xs,[],h=>by simp at h
 | x::xs,y::ys,h=>by
   have h:FV.v (.int k x)::List.flatMap (fun i=>[FV.v (.int k i)]) xs=FV.v (.int k y)::List.flatMap (fun i=>[FV.v (.int k i)]) ys:=h;injection h with h1 h2;injection h1 with h1;injection h1 with _ h1;rw[h1,qQP xs ys h2]
theorem qOW (xs:List Int):(List.flatMap (fun i=>[FV.v (.int k i)]) xs).length=xs.length:=by
 induction xs with
 | nil=>rfl
 | cons x xs ih=>rw[zO1,zOW,ih];simp;omega
theorem qK8 {k:IntKind}:∀ (xs ys:List Int) (vs:List Value),FRL Z H (List.flatMap (fun i=>[FV.v (.int k i)]) xs) vs->FRL Z' H (List.flatMap (fun i=>[FV.v (.int k i)]) ys) vs->xs=ys
 | [],[],_,_,_=>rfl
 | [],y::ys,vs,a,b=>by have:=a.len;have:=b.len;simp at *;omega
 | x::xs,[],vs,a,b=>by have:=a.len;have:=b.len;simp at *;omega
 | x::xs,y::ys,vs,a,b=>by
   have a:FRL Z H (FV.v (.int k x)::List.flatMap (fun i=>[FV.v (.int k i)]) xs) vs:=a;have b:FRL Z' H (FV.v (.int k y)::List.flatMap (fun i=>[FV.v (.int k i)]) ys) vs:=b;obtain⟨v,vs',rfl,a1,a2⟩:=a.zES;obtain⟨v',vs2,e,b1,b2⟩:=b.zES;cases e;have e1:=(qLY a1).symm.trans (qLY b1);injection e1 with _ e1;rw[qK8 xs ys _ a2 b2,e1]
theorem q4Z:∀ {xs ys:List Int},fvo el k xs=fvo el k ys->xs=ys
 | [],[],_=>rfl
 | [],_::_,h=>by cases h
 | _::_,[],h=>by cases h
 | x::xs,y::ys,h=>by
   injection h with _ _ h;exact qQP _ _ h
theorem q0U {v:Value}:∀ {xs ys:List Int},FR Z H (fvo el k xs) v->FR Z' H (fvo el k ys) v->xs=ys
 | [],[],_,_=>rfl
 | [],_::_,a,b=>by have:=qLY a;subst this;cases b
 | _::_,[],a,b=>by have:=qLY b;subst this;cases a
 | x::xs,y::ys,a,b=>by
   obtain⟨h1,ws,ws',h2,h3,h4⟩:=oC a b;have:=h4 (by rw[qOW,qOW];simpa using h1);subst this;exact qK8 _ _ ws h2 h3
theorem Ty.inj:∀ (t:Ty) (x y:t.sem),t.cells x=t.cells y->x=y
 | .int _,x,y,h=>by injection h with h;injection h with h;injection h
 | .bool,x,y,h=>by injection h with h;injection h with h;injection h
 | .str,x,y,h=>by injection h with h;injection h with h;injection h
 | .unit,_,_,_=>rfl
 | .nif,_,_,_=>rfl
 | .ol el k,xs,ys,h=>by
   injection h with h;exact q4Z h
 | .raw,xs,ys,h=>by
   injection h with h;injection h with _ h1 h2;exact qKB _ _ h2
 | .pair a b,x,y,h=>by
   have:=List.append_inj (show a.cells x.1++b.cells x.2=a.cells y.1++b.cells y.2 from h) (by rw[a.zEZ,a.zEZ]);exact Prod.ext (a.inj _ _ this.1) (b.inj _ _ this.2)
 | .list el t,xs,ys,h=>by
   injection h with h;injection h with _ h1 h2;exact go t xs ys h1 h2
where
 go (t:Ty):∀ (xs ys:List t.sem),xs.length=ys.length->xs.flatMap t.cells=ys.flatMap t.cells->xs=ys
 | [],[],_,_=>rfl
 | [],y::ys,e,h=>by cases e
 | x::xs,[],e,h=>by cases e
 | x::xs,y::ys,e,h=>by
   rw[zO1,zO1] at h;have:=List.append_inj h (by rw[t.zEZ,t.zEZ]);rw[t.inj x y this.1,go t xs ys (by simpa using e) this.2]
theorem Ty.uniq:∀ (t:Ty) {x y:t.sem} {vs:List Value},FRL Z H (t.cells x) vs->FRL Z' H (t.cells y) vs->x=y
 | .int k,x,y,vs,a,b=>by
   obtain⟨v,vs',rfl,a1,_⟩:=a.zES;obtain⟨v',vs2,e,b1,_⟩:=b.zES;cases e;have:=(qLY a1).symm.trans (qLY b1);injection this
 | .bool,x,y,vs,a,b=>by
   obtain⟨v,vs',rfl,a1,_⟩:=a.zES;obtain⟨v',vs2,e,b1,_⟩:=b.zES;cases e;have:=(qLY a1).symm.trans (qLY b1);injection this
 | .str,x,y,vs,a,b=>by
   obtain⟨v,vs',rfl,a1,_⟩:=a.zES;obtain⟨v',vs2,e,b1,_⟩:=b.zES;cases e;have:=(qLY a1).symm.trans (qLY b1);injection this
 | .unit,_,_,_,_,_=>rfl
 | .nif,_,_,_,_,_=>rfl
 | .ol el k,xs,ys,vs,a,b=>by
   obtain⟨v,vs',rfl,a1,_⟩:=a.zES;obtain⟨v',vs2,e,b1,_⟩:=b.zES;cases e;exact q0U a1 b1
 | .raw,xs,ys,vs,a,b=>by
   obtain⟨v,vs',rfl,a1,_⟩:=a.zES;obtain⟨v',vs2,e,b1,_⟩:=b.zES;cases e;obtain⟨h1,ws,ws',h2,h3,h4⟩:=oC a1 b1;have:=h4 (by rw[qA0,qA0,h1]);subst this;exact qPZ xs ys ws h2 h3
 | .pair s t,x,y,vs,a,b=>by
   obtain⟨a1,a2⟩:=FRL.split (xs:=s.cells x.1) (ys:=t.cells x.2) a;obtain⟨b1,b2⟩:=FRL.split (xs:=s.cells y.1) (ys:=t.cells y.2) b;rw[s.zEZ] at a1 a2 b1 b2;exact Prod.ext (s.uniq a1 b1) (t.uniq a2 b2)
 | .list el t,xs,ys,vs,a,b=>by
   obtain⟨v,vs',rfl,a1,_⟩:=a.zES;obtain⟨v',vs2,e,b1,_⟩:=b.zES;cases e;obtain⟨h1,ws,ws',h2,h3,h4⟩:=oC a1 b1;have:=h4 (by rw[zV,zV,h1]);subst this;exact go t xs ys ws h1 h2 h3
where
 go (t:Ty):∀ (xs ys:List t.sem) (vs:List Value),xs.length=ys.length->FRL Z H (xs.flatMap t.cells) vs->FRL Z' H (ys.flatMap t.cells) vs->xs=ys
 | [],[],_,_,_,_=>rfl
 | [],y::ys,vs,e,a,b=>by cases e
 | x::xs,[],vs,e,a,b=>by cases e
 | x::xs,y::ys,vs,e,a,b=>by
   rw[zO1] at a b;obtain⟨a1,a2⟩:=a.split;obtain⟨b1,b2⟩:=b.split;rw[t.zEZ] at a1 a2 b1 b2;rw[t.uniq a1 b1,go t xs ys _ (by simpa using e) a2 b2]
def Ty.pv (t:Ty)(x:t.sem):PV:=cond t.one (.f (t.fv x)) (.agg ((t.cells x).map .f))
def Ty.en (t:Ty):PEn t.sem:=⟨t.pv,fun x y h=>by
 unfold Ty.pv at h
 cases ht:t.one with
 | true =>
   rw[ht] at h;injection h with h;exact t.inj x y (by rw[Ty.cells_one ht,Ty.cells_one ht,h])
 | false =>
   rw[ht] at h;injection h with h
   exact t.inj x y (zA0 _ _ h),fun P Z Z' H x y v a b=>by
 unfold Ty.pv at a b
 cases ht:t.one with
 | true =>
   rw[ht] at a b
   cases a with
   | f a=>cases b with
     | f b=>exact t.uniq (vs:=[v]) (by rw[Ty.cells_one ht];exact .cons a ⟨rfl,fun i x v h=>by simp at h⟩) (by rw[Ty.cells_one ht];exact .cons b ⟨rfl,fun i x v h=>by simp at h⟩)
 | false =>
   rw[ht] at a b;obtain⟨vs,rfl,h1⟩:=VR.zHC a;obtain⟨vs',e,h2⟩:=VR.zHC b;cases e
   exact t.uniq (qA8 h1) (qA8 h2)⟩
@[reducible] def TyL:List Ty->Type
  | []=>Unit
  | [t]=>t.sem
  | t::u::ts=>t.sem×TyL (u::ts)
def pvL:(ts:List Ty)->TyL ts->List PV
 | [],_=>[]
 | [t],x=>[t.pv x]
 | t::u::ts,x=>t.pv x.1::pvL (u::ts) x.2
theorem qT4:∀ (ts:List Ty) (x y:TyL ts),pvL ts x=pvL ts y->x=y
 | [],_,_,_=>rfl
 | [t],x,y,h=>by injection h with h;exact t.en.inj x y h
 | t::u::ts,x,y,h=>by
   injection h with h1 h2;exact Prod.ext (t.en.inj _ _ h1) (qT4 (u::ts) _ _ h2)
theorem qO6:∀ (ts:List Ty) (x y:TyL ts) (vs:List Value),VRL P Z H (fun _=>none) (pvL ts x) vs->VRL P Z' H (fun _=>none) (pvL ts y) vs->x=y
 | [],_,_,_,_,_=>rfl
 | [t],x,y,vs,a,b=>by
   obtain⟨v,vs',rfl,a1,_⟩:=a.zES;obtain⟨v',vs2,e,b1,_⟩:=b.zES;cases e;exact t.en.uniq P Z Z' H x y v a1 b1
 | t::u::ts,x,y,vs,a,b=>by
   obtain⟨v,vs',rfl,a1,a2⟩:=a.zES;obtain⟨v',vs2,e,b1,b2⟩:=b.zES;cases e;exact Prod.ext (t.en.uniq P Z Z' H _ _ v a1 b1) (qO6 (u::ts) _ _ _ a2 b2)
def enL (ts:List Ty):AEn (TyL ts):=⟨pvL ts,qT4 ts,fun P Z Z' H x y vs a b=>qO6 ts x y vs a b⟩
def jL:(ts:List Ty)->TyL ts->PV:=fun ts x=>qDV (pvL ts x)
end Go.Sv
namespace Go.Sv
open Go.Idl
variable [Gc]
variable {P:Program}
variable {b:Bool}{k:Nat}
def zEP (R:Type):Type:=Option R
section
variable {R α σ ρ:Type}
def zEP.run (t:zEP R):Option R:=t
def zEP.fail:zEP R:=(none:Option R)
def zEP.ret (r:R):zEP R:=some r
def zEP.ite (b:Bool)(x y:zEP R):zEP R:=cond b x y
noncomputable def zEP.bind (o:Option α)(k:α->zEP R):zEP R:=Option.rec zEP.fail k o
open Classical in
noncomputable def qNN (x y:Option R):Option R:=if x=y then x else none
noncomputable def zEP.both (x y:zEP R):zEP R:=zEP.bind (qNN x y) .ret
noncomputable def zEP.loop (f:σ->zEP (σ⊕ρ))(s:σ)(k:ρ->zEP R):zEP R:=zEP.bind (zO (fun s=>(f s).run) s) k
end
theorem run_ite {R:Type}{x y:zEP R}{r:R}(h:(zEP.ite b x y).run=some r):(b=true∧x.run=some r)∨(b=false∧y.run=some r):=by
 cases b with
 | true=>exact .inl ⟨rfl,h⟩
 | false=>exact .inr ⟨rfl,h⟩
theorem run_bind {R α:Type}{o:Option α}{k:α->zEP R}{r:R}(h:(zEP.bind o k).run=some r):∃ a,o=some a∧(k a).run=some r:=by
 cases o with
 | none=>cases h
 | some a=>exact⟨a,rfl,h⟩
theorem qQ8 {R σ ρ:Type}{f:σ->zEP (σ⊕ρ)}{s:σ}{k:ρ->zEP R}{r:R}(h:(zEP.loop f s k).run=some r):∃ a,zO (fun s=>(f s).run) s=some a∧(k a).run=some r:=run_bind h
theorem qUA {R:Type}{x y:Option R}{r:R}(h:qNN x y=some r):x=some r∧y=some r:=by
 unfold qNN at h;split at h
 ·rename_i e;exact⟨h,e ▸ h⟩
 ·cases h
theorem q29 {R:Type}{x y:zEP R}{r:R}(h:(zEP.both x y).run=some r):x.run=some r∧y.run=some r:=by
 obtain⟨a,h1,h2⟩:=run_bind h;cases h2;exact qUA h1
theorem qS8 {R:Type}(x:Option R):qNN x x=x:=by unfold qNN;rw[if_pos rfl]
theorem qE {R:Type}{x:zEP R}{r:R}(h:(cond b x .fail).run=some r):b=true∧x.run=some r:=by
 cases b with
 | true=>exact⟨rfl,h⟩
 | false=>cases h
inductive SV where
 | d (t:Ty) (x:t.sem)
 | c (v:Value)
 | agg (l:List SV)
 | tup (l:List SV)
 | own (k g n:Nat)
 | sl (k g n o m:Nat)
 | ref (k off w:Nat)
 | elt (k g n w j off:Nat)
 | lp (t:Ty) (xs:List t.sem) (j off:Nat)
 | fn (f:FuncId) (first cap:List SV)
 | unk
 | yv
 | bq
 | mp (k:Nat)
 | opt (b:Bool) (k off w:Nat)
 | rfx (k off w:Nat)
 | etx (k g n w j off:Nat)
 | asl (el:TypeId) (k w n:Nat)
section
variable [Yl]
mutual
def SV.enc:SV->PV
 | .d t x=>.f (t.fv x)
 | .c v=>fvv v
 | .agg l=>.agg (qB l)
 | .tup l=>.tup (qB l)
 | .own k _ n=>.own k n 0 n
 | .sl k _ n o m=>.own k n o m
 | .ref k off w=>.ref k w off
 | .elt k _ n w j off=>.ref k (n*w) (j*w+off)
 | .lp t xs j off=>.lp (List.flatMap t.cells xs) (j*t.w+off)
 | .fn f a b=>.fn f (qB a) (qB b)
 | .unk=>.unk
 | .yv=>.yl Yl.l
 | .bq=>.bq
 | .mp k=>.mp k
 | .opt b k off w=>cond b (.ref k w off) (fvv (.pointer none))
 | .rfx k off w=>.ref k w off
 | .etx k _ n w j off=>.ref k (n*w) (j*w+off)
 | .asl el k _ n=>.asl el k n
def qB:List SV->List PV
 | []=>[]
 | x::l=>x.enc::qB l
end
theorem zF:∀ (l:List SV),qB l=l.map SV.enc
 | []=>by simp[qB]
 | x::l=>by simp[qB,zF l]
end
inductive SpO where
 | map (es:List (Value×Value))
 | iter (s:ByteArray) (pos:Nat)
 | mit (t:TypeId) (k since last:Nat) (seen:List Nat)
 | arr (el:TypeId) (k:IntKind) (xs:List Int)
def xH:Nat->List (Value×Value)->List MapEntry
 | _,[]=>[]
 | i,p::l=>⟨p.1,p.2,i⟩::xH (i+1) l
def SpO.enc:SpO->PO
 | .map es=>⟨1000000001,false,kS (List.length es) (xH 0 es)⟩
 | .iter s pos=>⟨1000000000,false,qBT s pos⟩
 | .mit _ k since last seen=>⟨1000000002,false,qHM (.mp k) since last seen⟩
 | .arr el k xs=>⟨el,false,xs.map fun x=>fvv (.int k x)⟩
inductive SO where
 | spc (w:Nat) (x:SpO)
 | cells (el:TypeId) (w:Nat) (l:List SV)
 | list (el:TypeId) (gr:Bool) (g w:Nat) (t:Ty) (xs:List t.sem)
section
variable [Yl]
def SO.enc:SO->PO
 | .cells el _ l=>⟨el,false,qB l⟩
 | .list el gr _ _ t xs=>⟨el,gr,(List.flatMap t.cells xs).map .f⟩
 | .spc _ x=>x.enc
def SO.w:SO->Nat
 | .cells _ w _=>w
 | .list _ _ _ w _ _=>w
 | .spc w _=>w
structure SH where
 next:Nat
 l:List (Nat×SO)
def slk (k:Nat):List (Nat×SO)->Option SO
 | []=>none
 | (j,o)::l=>cond (k==j) (some o) (slk k l)
def sst (k:Nat)(o:SO):List (Nat×SO)->List (Nat×SO)
 | []=>[]
 | (j,p)::l=>cond (k==j) ((j,o)::l) ((j,p)::sst k o l)
def sdl (k:Nat):List (Nat×SO)->List (Nat×SO)
 | []=>[]
 | (j,p)::l=>cond (k==j) (sdl k l) ((j,p)::sdl k l)
def qC:List (Nat×SO)->PHp
 | []=>[]
 | (j,o)::l=>(j,o.enc)::qC l
theorem vI (k:Nat):∀ (l:List (Nat×SO)),qA k (qC l)=(slk k l).map SO.enc
 | []=>rfl
 | (j,o)::l=>by
   show cond (k==j) (some o.enc) (qA k (qC l))=(cond (k==j) (some o) (slk k l)).map SO.enc;cases k==j
   ·exact vI k l
   ·rfl
theorem xX (k:Nat)(o:SO):∀ (l:List (Nat×SO)),qC (sst k o l)=xQ k o.enc (qC l)
 | []=>rfl
 | (j,p)::l=>by
   show qC (cond (k==j) ((j,o)::l) ((j,p)::sst k o l))=cond (k==j) ((j,o.enc)::qC l) ((j,p.enc)::xQ k o.enc (qC l));cases k==j
   ·show (j,p.enc)::qC (sst k o l)=_;rw[xX k o l];rfl
   ·rfl
theorem fB (k:Nat):∀ (l:List (Nat×SO)),qC (sdl k l)=nS k (qC l)
 | []=>rfl
 | (j,p)::l=>by
   show qC (cond (k==j) (sdl k l) ((j,p)::sdl k l))=cond (k==j) (nS k (qC l)) ((j,p.enc)::nS k (qC l));cases k==j
   ·show (j,p.enc)::qC (sdl k l)=_;rw[fB k l];rfl
   ·exact fB k l
end
theorem qE7 {k j:Nat}{o:SO}(hj:j≠k):∀ (l:List (Nat×SO)),slk j (sst k o l)=slk j l
 | []=>rfl
 | (i,p)::l=>by
   show slk j (cond (k==i) ((i,o)::l) ((i,p)::sst k o l))=cond (j==i) (some p) (slk j l)
   cases h:k==i with
   | true =>
     have:k=i:=by simpa using h
     subst this;show cond (j==k) (some o) (slk j l)=_;rw[show (j==k)=false by simpa using hj];rfl
   | false =>
     show cond (j==i) (some p) (slk j (sst k o l))=_;rw[qE7 hj l]
theorem qXA {k:Nat}{o p:SO}:∀ {l:List (Nat×SO)},slk k l=some p->slk k (sst k o l)=some o
 | (i,q)::l,h=>by
   have h:cond (k==i) (some q) (slk k l)=some p:=h;show slk k (cond (k==i) ((i,o)::l) ((i,q)::sst k o l))=some o
   cases hi:k==i with
   | true =>
     show cond (k==i) (some o) (slk k l)=some o;rw[hi];rfl
   | false =>
     rw[hi] at h;show cond (k==i) (some q) (slk k (sst k o l))=some o;rw[hi];exact qXA (l:=l) h
theorem kX {k j:Nat}(hj:j≠k):∀ (l:List (Nat×SO)),slk j (sdl k l)=slk j l
 | []=>rfl
 | (i,p)::l=>by
   show slk j (cond (k==i) (sdl k l) ((i,p)::sdl k l))=cond (j==i) (some p) (slk j l)
   cases h:k==i with
   | true =>
     have:k=i:=by simpa using h
     subst this;rw[show (j==k)=false by simpa using hj];exact kX hj l
   | false =>
     show cond (j==i) (some p) (slk j (sdl k l))=_;rw[kX hj l]
theorem qNB (k:Nat):∀ (l:List (Nat×SO)),slk k (sdl k l)=none
 | []=>rfl
 | (i,p)::l=>by
   show slk k (cond (k==i) (sdl k l) ((i,p)::sdl k l))=none
   cases h:k==i with
   | true=>exact qNB k l
   | false =>
     show cond (k==i) (some p) (slk k (sdl k l))=none;rw[h];exact qNB k l
theorem zY {j:Nat}{o:SO}{l:List (Nat×SO)}(hj:j≠k):slk j ((k,o)::l)=slk j l:=by
 show cond (j==k) (some o) (slk j l)=_;rw[show (j==k)=false by simpa using hj];rfl
theorem jF {o:SO}{l:List (Nat×SO)}:slk k ((k,o)::l)=some o:=by
 show cond (k==k) (some o) (slk k l)=_;simp
def qUZ (h:SH)(k g n:Nat):Prop:=g < h.next∧∀ el gr w t xs,slk k h.l=some (.list el gr g w t xs)->n=xs.length
mutual
def SV.ok (h:SH):SV->Prop
 | .agg l=>okL h l
 | .tup l=>okL h l
 | .own k g n=>qUZ h k g n
 | .sl k g n o m=>qUZ h k g n∧o+m<=n
 | .elt k g n _ _ _=>qUZ h k g n
 | .etx k g n _ _ _=>qUZ h k g n
 | .fn _ a b=>okL h a∧okL h b
 | .asl _ k w n=>w < h.next∧∀ ob,slk k h.l=some ob->ob.w=w->∃ el ik,∃ xs:List Int,ob=.spc w (.arr el ik xs)∧n=xs.length
 | _=>True
def okL (h:SH):List SV->Prop
 | []=>True
 | x::l=>x.ok h∧okL h l
end
theorem zI {h:SH}:∀ {l:List SV},okL h l ↔ ∀ x∈l,x.ok h
 | []=>by simp[okL]
 | x::l=>by simp[okL,zI (l:=l)]
structure OkH (P:Program) (h:SH):Prop where
 ver:∀ k ob,slk k h.l=some ob->ob.w < h.next
 cells:∀ k el w l,slk k h.l=some (.cells el w l)->okL h l
 list:∀ k el gr g w t xs,slk k h.l=some (.list el gr g w t xs)->g < h.next∧szT P el=some t.w∧0 < t.w
structure Keep (h h':SH):Prop where
 next:h.next<=h'.next
 same:∀ k ob,slk k h'.l=some ob->ob.w < h.next->slk k h.l=some ob
 len:∀ k el gr g w t xs,slk k h'.l=some (.list el gr g w t xs)->g < h.next->∃ w0,∃ xs0:List t.sem,slk k h.l=some (.list el gr g w0 t xs0)∧xs0.length=xs.length
theorem Keep.refl (h:SH):Keep h h:=⟨zOA _,fun _ _ h _=>h,fun k el gr g w t xs h _=>⟨w,xs,h,rfl⟩⟩
theorem Keep.trans {a b c:SH}(x:Keep a b)(y:Keep b c):Keep a c :=
 ⟨zOT x.next y.next,fun k ob h hw=>x.same k ob (y.same k ob h (zOD hw x.next)) hw,fun k el gr g w t xs h hg=>by
   obtain⟨w1,xs1,h1,e1⟩:=y.len k el gr g w t xs h (zOD hg x.next);obtain⟨w2,xs2,h2,e2⟩:=x.len k el gr g w1 t xs1 h1 hg
   exact⟨w2,xs2,h2,e2.trans e1⟩⟩
theorem qUZ.keep {h h':SH}{g n:Nat}(a:qUZ h k g n)(b:Keep h h'):qUZ h' k g n :=
 ⟨zOD a.1 b.next,fun el gr w t xs hk=>by
   obtain⟨w0,xs0,h0,e0⟩:=b.len k el gr g w t xs hk a.1
   rw[<-e0];exact a.2 el gr w0 t xs0 h0⟩
mutual
theorem SV.ok.keep {h h':SH}(b:Keep h h'):∀ {x:SV},x.ok h->x.ok h'
 | .agg l,a=>by simp only[SV.ok] at a ⊢;exact qJ b a
 | .tup l,a=>by simp only[SV.ok] at a ⊢;exact qJ b a
 | .own k g n,a=>by simp only[SV.ok] at a ⊢;exact a.keep b
 | .sl k g n o m,a=>by simp only[SV.ok] at a ⊢;exact⟨a.1.keep b,a.2⟩
 | .elt k g n w j off,a=>by simp only[SV.ok] at a ⊢;exact a.keep b
 | .etx k g n w j off,a=>by simp only[SV.ok] at a ⊢;exact a.keep b
 | .fn f x y,a=>by simp only[SV.ok] at a ⊢;exact⟨qJ b a.1,qJ b a.2⟩
 | .d _ _,_=>by simp[SV.ok]
 | .c _,_=>by simp[SV.ok]
 | .ref _ _ _,_=>by simp[SV.ok]
 | .lp _ _ _ _,_=>by simp[SV.ok]
 | .unk,_=>by simp[SV.ok]
 | .yv,_=>by simp[SV.ok]
 | .bq,_=>by simp[SV.ok]
 | .mp _,_=>by simp[SV.ok]
 | .opt _ _ _ _,_=>by simp[SV.ok]
 | .rfx _ _ _,_=>by simp[SV.ok]
 | .asl el k w n,a=>by
   simp only[SV.ok] at a ⊢;exact⟨zOD a.1 b.next,fun ob ho hw=>a.2 ob (b.same k ob ho (by rw[hw];exact a.1)) hw⟩
theorem qJ {h h':SH}(b:Keep h h'):∀ {l:List SV},okL h l->okL h' l
 | [],_=>by simp[okL]
 | x::l,a=>by simp only[okL] at a ⊢;exact⟨SV.ok.keep b a.1,qJ b a.2⟩
end
def SH.new (h:SH)(k:Nat)(f:Nat->SO):SH:=⟨h.next+1,(k,f h.next)::h.l⟩
def SH.put (h:SH)(k:Nat)(f:Nat->SO):SH:=⟨h.next+1,sst k (f h.next) h.l⟩
def SH.del (h:SH)(k:Nat):SH:=⟨h.next,sdl k h.l⟩
def zAI (P:Program)(h:SH)(n:Nat):SO->Prop
 | .cells _ w l=>w=n∧okL h l
 | .list el _ g w t _=>w=n∧g=n∧szT P el=some t.w∧0 < t.w
 | .spc w _=>w=n
theorem qZ0 {h:SH}{f:Nat->SO}(hw:(f h.next).w=h.next)(hg:∀ el gr g w t xs,f h.next=.list el gr g w t xs->g=h.next):Keep h (h.new k f) :=
 ⟨zRS _,fun j ob hj hlt=>by
   by_cases e:j=k
   ·subst e;rw[show slk j (h.new j f).l=some (f h.next) from jF] at hj;cases hj;omega
   ·rwa [show slk j (h.new k f).l=slk j h.l from zY e] at hj,fun j el gr g w t xs hj hlt=>by
   by_cases e:j=k
   ·subst e;rw[show slk j (h.new j f).l=some (f h.next) from jF] at hj;have:=hg _ _ _ _ _ _ (zO7 hj);omega
   ·rw[show slk j (h.new k f).l=slk j h.l from zY e] at hj
    exact⟨w,xs,hj,rfl⟩⟩
theorem xI {h:SH}{f:Nat->SO}(a:OkH P h)(hf:zAI P h h.next (f h.next)):Keep h (h.new k f)∧OkH P (h.new k f):=by
 have hw:(f h.next).w=h.next:=by
  cases hq:f h.next with
  | cells el w l=>rw[hq] at hf;exact hf.1
  | list el gr g w t xs=>rw[hq] at hf;exact hf.1
  | spc w x=>rw[hq] at hf;exact hf
 have hk:Keep h (h.new k f):=qZ0 hw fun el gr g w t xs e=>by rw[e] at hf;exact hf.2.1
 refine⟨hk,⟨fun j ob hj=>?_,fun j el w l hj=>?_,fun j el gr g w t xs hj=>?_⟩⟩
 ·by_cases e:j=k
  ·subst e;rw[show slk j (h.new j f).l=some (f h.next) from jF] at hj;cases hj;rw[hw];exact zO6 _
  ·rw[show slk j (h.new k f).l=slk j h.l from zY e] at hj;exact zPZ (a.ver j ob hj)
 ·by_cases e:j=k
  ·subst e;rw[show slk j (h.new j f).l=some (f h.next) from jF] at hj;rw[zO7 hj] at hf;exact qJ hk hf.2
  ·rw[show slk j (h.new k f).l=slk j h.l from zY e] at hj;exact qJ hk (a.cells j el w l hj)
 ·by_cases e:j=k
  ·subst e;rw[show slk j (h.new j f).l=some (f h.next) from jF] at hj;rw[zO7 hj] at hf;exact⟨by rw[hf.2.1];exact zO6 _,hf.2.2⟩
  ·rw[show slk j (h.new k f).l=slk j h.l from zY e] at hj;have:=a.list j el gr g w t xs hj;exact⟨zPZ this.1,this.2⟩
def zC1 (h:SH)(n:Nat):SO->SO->Prop
 | .cells _ _ _,.cells _ w' l'=>w'=n∧okL h l'
 | .list el gr g _ t xs,ob'=>∃ xs':List t.sem,ob'=.list el gr g n t xs'∧xs.length=xs'.length
 | .spc _ _,.spc w' _=>w'=n
 | _,_=>False
theorem vS {h:SH}{f:Nat->SO}{ob:SO}(a:OkH P h)(hk:slk k h.l=some ob)(hf:zC1 h h.next ob (f h.next)):Keep h (h.put k f)∧OkH P (h.put k f):=by
 have hs:slk k (h.put k f).l=some (f h.next):=qXA hk;have hn:∀ j,j≠k->slk j (h.put k f).l=slk j h.l:=fun j hj=>qE7 hj _
 have hw:(f h.next).w=h.next:=by
  cases ob with
  | cells el w l =>
    cases hq:f h.next with
    | cells el' w' l'=>rw[hq] at hf;exact hf.1
    | list=>rw[hq] at hf;exact hf.elim
    | spc=>rw[hq] at hf;exact hf.elim
  | spc w0 x0 =>
    cases hq:f h.next with
    | spc w' x'=>rw[hq] at hf;exact hf
    | list=>rw[hq] at hf;exact hf.elim
    | cells=>rw[hq] at hf;exact hf.elim
  | list el gr g w t xs =>
    obtain⟨xs',e,_⟩:=hf;rw[e];rfl
 have hkp:Keep h (h.put k f):=by
  refine⟨zRS _,fun j o hj hlt=>?_,fun j el gr g w t xs hj hlt=>?_⟩
  ·by_cases e:j=k
   ·subst e;rw[hs] at hj;cases hj;omega
   ·rwa [hn j e] at hj
  ·by_cases e:j=k
   ·subst e;rw[hs] at hj;have hj:=zO7 hj
    cases ob with
    | cells el0 w0 l0 =>
      rw[hj] at hf;exact hf.elim
    | spc w0 x0 =>
      rw[hj] at hf;exact hf.elim
    | list el0 gr0 g0 w0 t0 xs0 =>
      obtain⟨xs',e2,e3⟩:=hf;rw[e2] at hj;injection hj with a1 a2 a3 a4 a5 a6;subst a1 a2 a3 a5;cases a6;exact⟨w0,xs0,hk,e3⟩
   ·rw[hn j e] at hj;exact⟨w,xs,hj,rfl⟩
 refine⟨hkp,⟨fun j o hj=>?_,fun j el w l hj=>?_,fun j el gr g w t xs hj=>?_⟩⟩
 ·by_cases e:j=k
  ·subst e;rw[hs] at hj;cases hj;rw[hw];exact zO6 _
  ·rw[hn j e] at hj;exact zPZ (a.ver j o hj)
 ·by_cases e:j=k
  ·subst e;rw[hs] at hj;have hj:=zO7 hj
   cases ob with
   | cells el0 w0 l0=>rw[hj] at hf;exact qJ hkp hf.2
   | spc w0 x0=>rw[hj] at hf;exact hf.elim
   | list el0 gr0 g0 w0 t0 xs0 =>
     obtain⟨xs',e2,e3⟩:=hf;rw[e2] at hj;cases hj
  ·rw[hn j e] at hj;exact qJ hkp (a.cells j el w l hj)
 ·by_cases e:j=k
  ·subst e;rw[hs] at hj;have hj:=zO7 hj
   cases ob with
   | cells el0 w0 l0=>rw[hj] at hf;exact hf.elim
   | spc w0 x0=>rw[hj] at hf;exact hf.elim
   | list el0 gr0 g0 w0 t0 xs0 =>
     obtain⟨xs',e2,e3⟩:=hf;rw[e2] at hj;injection hj with a1 a2 a3 a4 a5 a6;subst a1 a2 a3 a5;have:=a.list j _ _ _ _ _ _ hk;exact⟨zPZ this.1,this.2⟩
  ·rw[hn j e] at hj;have:=a.list j el gr g w t xs hj;exact⟨zPZ this.1,this.2⟩
theorem fU {h:SH}(a:OkH P h):Keep h (h.del k)∧OkH P (h.del k):=by
 have hl:∀ j ob,slk j (h.del k).l=some ob->slk j h.l=some ob:=fun j ob hj=>by
  by_cases e:j=k
  ·subst e;rw[show slk j (h.del j).l=none from qNB j _] at hj;cases hj
  ·rwa [show slk j (h.del k).l=slk j h.l from kX e _] at hj
 have hkp:Keep h (h.del k):=⟨zOA _,fun j ob hj _=>hl j ob hj,fun j el gr g w t xs hj _=>⟨w,xs,hl _ _ hj,rfl⟩⟩
 exact⟨hkp,⟨fun j ob hj=>a.ver j ob (hl j ob hj),fun j el w l hj=>qJ hkp (a.cells j el w l (hl _ _ hj)),fun j el gr g w t xs hj=>a.list j el gr g w t xs (hl _ _ hj)⟩⟩
def GV (Γ:Option Type):Type:=match Γ with
 | none=>Unit
 | some γ=>γ
def GS (Γ:Option Type)(S:Type):Type:=match Γ with
 | none=>S
 | some γ=>γ×S
def gj:{Γ:Option Type}->{S:Type}->GV Γ->S->GS Γ S
 | none,_,_,s=>s
 | some _,_,g,s=>(g,s)
def g1:{Γ:Option Type}->{S:Type}->GS Γ S->GV Γ
 | none,_,_=>()
 | some _,_,p=>p.1
def g2:{Γ:Option Type}->{S:Type}->GS Γ S->S
 | none,_,s=>s
 | some _,_,p=>p.2
theorem q4M {Γ:Option Type}{S:Type}{g:GV Γ}{s:S}:g1 (gj g s)=g:=by cases Γ <;> rfl
theorem q23 {Γ:Option Type}{S:Type}{g:GV Γ}{s:S}:g2 (gj g s)=s:=by cases Γ <;> rfl
structure Ent where
 as:List Ty
 rs:List Ty
 F:TyL as->Option (TyL rs)
abbrev zQ:=List (FuncId×Ent)
def slT (g:FuncId):zQ->Option Ent
 | []=>none
 | (k,e)::l=>cond (Nat.beq g k) (some e) (slT g l)
structure Sh where
 d:List Nat
 o:List Nat
 s:List (Nat×Nat)
 v:List (Nat×TypeId)
 ex:List Nat
 b:List (Nat×List (Option Nat)):=[]
 bv:List (Nat×Nat×TypeId×Nat):=[]
structure Ab where
 A:List Ty->Type
 f:∀ ts,TyL ts->A ts
def Ab.id:Ab:=⟨fun ts=>TyL ts,fun _ s=>s⟩
structure zHS where
 d:List Nat
 os:List (Nat×Bool)
 s:List (Nat×Nat)
 b:List (Nat×List (Option Nat))
 ts:List Ty
def zHS.sh (j:zHS):Sh:=⟨j.d,j.os.map (·.1),j.s,[],[],j.b,[]⟩
structure An where
 fz:List (Nat×List (Nat×TypeId))
 lp:List (Nat×Sh)
 rg:List (Nat×Sh):=[]
 ab:List (Nat×Ab):=[]
 jn:List (Nat×zHS):=[]
def lkA.{u}{α:Type u}(i:Nat):List (Nat×α)->Option α
 | []=>none
 | (j,x)::l=>cond (Nat.beq i j) (some x) (lkA i l)
structure zFB where
 as:List Ty
 ys:List Ty
 yt:List TypeId
 F:TyL as->(γ:Type)->(γ->TyL ys->Option (γ×Bool))->γ->Option γ
def slI (g:FuncId):List (FuncId×zFB)->Option zFB
 | []=>none
 | (k,e)::l=>cond (Nat.beq g k) (some e) (slI g l)
structure YI (Γ:Type) where
 ys:List Ty
 yt:List TypeId
 stp:Γ->TyL ys->Option (Γ×Bool)
def yi0:YI Unit:=⟨[],[],fun _ _=>none⟩
abbrev CIT:Type 1:=(R:Type)->Nm->FuncId->List SV->SH->(SV->SH->zEP R)->zEP R
end Go.Sv
namespace Go.Sv
open Go.Idl
variable {a b env l:List SV}{el t:TypeId}{ik k:IntKind}{j n off w w':Nat}{v x:SV}{xs ys:List Int}
noncomputable section
variable [Gc]
variable [Yl]
variable {P:Program}{h:SH}{R:Type}{r:R}
def zBB:Value->SV
 | .agg cs=>cond (jH okC cs.toList) (.agg (kY .c cs.toList)) .unk
 | .tuple cs=>cond (jH okC cs.toList) (.tup (kY .c cs.toList)) .unk
 | v=>cond (okC v) (.c v) .unk
def kD (env:List SV):Operand->SV
 | .tmp t=>(zH env t).getD .unk
 | .const v=>zBB v
 | .global _=>.unk
 | .func g=>.c (.func (.func g) #[] #[])
theorem zBG:∀ (l:List Value),qB (kY .c l)=kY fvv l
 | []=>by simp[kY,qB]
 | v::l=>by
   show qB (.c v::kY .c l)=fvv v::kY fvv l;simp[qB,zBG l,SV.enc]
omit [Yl] in
theorem zBF:∀ (l:List Value),okL h (kY .c l)
 | []=>by simp[kY,okL]
 | v::l=>by
   show okL h (.c v::kY .c l);simp[okL,zBF l,SV.ok]
theorem q0F (v:Value):ofC v=(zBB v).enc:=by
 cases v with
 | agg cs =>
   show cond _ _ _=(cond (jH okC cs.toList) (SV.agg (kY .c cs.toList)) SV.unk).enc;cases jH okC cs.toList
   ·simp[SV.enc]
   ·simp[SV.enc,zBG]
 | tuple cs =>
   show cond _ _ _=(cond (jH okC cs.toList) (SV.tup (kY .c cs.toList)) SV.unk).enc;cases jH okC cs.toList
   ·simp[SV.enc]
   ·simp[SV.enc,zBG]
 | _ =>
   simp only[ofC,q5P,zBB];cases okC _ <;> simp[SV.enc]
omit [Yl] in
theorem q6A (v:Value):(zBB v).ok h:=by
 cases v with
 | agg cs =>
   show (cond (jH okC cs.toList) (.agg (kY .c cs.toList)) .unk:SV).ok h;cases jH okC cs.toList
   ·simp[SV.ok]
   ·simp[SV.ok,zBF]
 | tuple cs =>
   show (cond (jH okC cs.toList) (.tup (kY .c cs.toList)) .unk:SV).ok h;cases jH okC cs.toList
   ·simp[SV.ok]
   ·simp[SV.ok,zBF]
 | _ =>
   simp only[zBB];cases okC _ <;> simp[SV.ok]
theorem qV (env:List SV)(t:Nat):zH (qB env) t=(zH env t).map SV.enc:=by
 rw[qF,qF,zF,zOO]
omit [Yl] in
theorem nA {t:Nat}(ho:okL h env)(hx:zH env t=some x):x.ok h:=by
 rw[qF] at hx;exact zI.1 ho x (zPG hx)
theorem qO (env:List SV)(x:Operand):qK (qB env) x=(kD env x).enc:=by
 cases x with
 | tmp t =>
   show (zH (qB env) t).getD .unk=((zH env t).getD .unk).enc;rw[qV];cases zH env t <;> simp[SV.enc]
 | const v=>exact q0F v
 | global g=>simp[qK,kD,SV.enc]
 | func g=>simp[qK,kD,SV.enc]
omit [Yl] in
theorem mW (ho:okL h env)(x:Operand):(kD env x).ok h:=by
 cases x with
 | tmp t =>
   show ((zH env t).getD .unk).ok h
   cases hx:zH env t with
   | none=>simp[SV.ok]
   | some y=>exact nA ho hx
 | const v=>exact q6A v
 | global g=>simp[kD,SV.ok]
 | func g=>simp[kD,SV.ok]
def asI:SV->Option (IntKind×Int)
 | .d (.int k) x=>some (k,x)
 | .c (.int k x)=>some (k,x)
 | _=>none
def asB:SV->Option Bool
 | .d .bool x=>some x
 | .c (.bool x)=>some x
 | _=>none
def asS:SV->Option ByteArray
 | .d .str x=>some x
 | .c (.string x)=>some x
 | _=>none
theorem yB {x:Int}(e:asI v=some (k,x)):v.enc=fvv (.int k x):=by
 unfold asI at e;split at e
 ·cases e;simp[SV.enc,Ty.fv,fvv]
 ·cases e;simp[SV.enc]
 ·cases e
theorem sD {x:Bool}(e:asB v=some x):v.enc=fvv (.bool x):=by
 unfold asB at e;split at e
 ·cases e;simp[SV.enc,Ty.fv,fvv]
 ·cases e;simp[SV.enc]
 ·cases e
theorem gX {x:ByteArray}(e:asS v=some x):v.enc=fvv (.string x):=by
 unfold asS at e;split at e
 ·cases e;simp[SV.enc,Ty.fv,fvv]
 ·cases e;simp[SV.enc]
 ·cases e
def Ty.svs:(t:Ty)->t.sem->List SV
 | .int k,x=>[.d (.int k) x]
 | .bool,x=>[.d .bool x]
 | .str,x=>[.d .str x]
 | .unit,_=>[]
 | .list el t,x=>[.d (.list el t) x]
 | .pair a b,x=>a.svs x.1++b.svs x.2
 | .raw,x=>[.d .raw x]
 | .ol el k,x=>[.d (.ol el k) x]
 | .nif,x=>[.d .nif x]
theorem dD (a b:List SV):qB (a++b)=qB a++qB b:=by simp[zF]
theorem gZ:∀ (t:Ty) (x:t.sem),qB (t.svs x)=(t.cells x).map .f
 | .int k,x=>by simp[Ty.svs,Ty.cells,qB,SV.enc,Ty.fv]
 | .bool,x=>by simp[Ty.svs,Ty.cells,qB,SV.enc,Ty.fv]
 | .str,x=>by simp[Ty.svs,Ty.cells,qB,SV.enc,Ty.fv]
 | .unit,x=>by simp[Ty.svs,Ty.cells,qB]
 | .list el t,x=>by simp[Ty.svs,Ty.cells,qB,SV.enc,Ty.fv]
 | .raw,x=>by simp[Ty.svs,Ty.cells,qB,SV.enc,Ty.fv]
 | .ol el k,x=>by simp[Ty.svs,Ty.cells,qB,SV.enc,Ty.fv]
 | .nif,x=>by simp[Ty.svs,Ty.cells,qB,SV.enc,Ty.fv]
 | .pair a b,x=>by
   show qB (a.svs x.1++b.svs x.2)=(a.cells x.1++b.cells x.2).map .f;rw[dD,gZ a,gZ b,zPQ]
omit [Yl] in
theorem fG (x:okL h a)(y:okL h b):okL h (a++b):=zI.2 fun z hz=>by
 rcases zPD.1 hz with q | q
 ·exact zI.1 x z q
 ·exact zI.1 y z q
omit [Yl] in
theorem qEQ:∀ (t:Ty) (x:t.sem),okL h (t.svs x)
 | .int k,x=>by simp[Ty.svs,okL,SV.ok]
 | .bool,x=>by simp[Ty.svs,okL,SV.ok]
 | .str,x=>by simp[Ty.svs,okL,SV.ok]
 | .unit,x=>by simp[Ty.svs,okL]
 | .list el t,x=>by simp[Ty.svs,okL,SV.ok]
 | .raw,x=>by simp[Ty.svs,okL,SV.ok]
 | .ol el k,x=>by simp[Ty.svs,okL,SV.ok]
 | .nif,x=>by simp[Ty.svs,okL,SV.ok]
 | .pair a b,x=>fG (qEQ a x.1) (qEQ b x.2)
def q6H (k:IntKind)(v:SV):Option Int:=match asI v with
 | some (k',x)=>cond (decide (k'=k)) (some x) none
 | none=>none
def zB2 (el:TypeId)(t:Ty):SV->Option (List t.sem)
 | .d (.list el' t') xs=>if e:t'=t then cond (Nat.beq el' el) (some (e ▸ xs)) none else none
 | _=>none
def asR:SV->Option (List (Value×Value))
 | .d .raw x=>some x
 | _=>none
def q5G (el:TypeId)(k:IntKind):SV->Option (List Int)
 | .d (.ol el' k') xs=>cond (Nat.beq el' el&&decide (k'=k)) (some xs) none
 | .c (.slice none 0 0)=>some []
 | _=>none
def q7C:SV->Option Unit
 | .d .nif _=>some ()
 | .c .nilIface=>some ()
 | _=>none
def Ty.zI9:(t:Ty)->SV->Option t.sem
 | .int k,v=>q6H k v
 | .bool,v=>asB v
 | .str,v=>asS v
 | .list el t,v=>zB2 el t v
 | .unit,_=>none
 | .pair _ _,_=>none
 | .raw,v=>asR v
 | .ol el k,v=>q5G el k v
 | .nif,v=>q7C v
theorem oH {x:Int}(e:q6H k v=some x):v.enc=fvv (.int k x):=by
 unfold q6H at e;split at e
 ·rename_i k' x' hx
  cases hk:decide (k'=k) with
  | false=>rw[hk] at e;cases e
  | true =>
    rw[hk] at e;cases e;have:k'=k:=by simpa using hk
    subst this;exact yB hx
 ·cases e
omit [Yl] in
theorem q2Q {t:Ty}{x:List t.sem}(e:zB2 el t v=some x):v=.d (.list el t) x:=by
 unfold zB2 at e;split at e
 ·rename_i el' t' xs;split at e
  ·rename_i ht;subst ht
   cases hk:Nat.beq el' el with
   | false=>rw[hk] at e;cases e
   | true =>
     rw[hk] at e;cases e;have:el'=el:=zN9 hk;subst this;rfl
  ·cases e
 ·cases e
theorem qXM {x:List Int}(e:q5G el k v=some x):v.enc=.f (fvo el k x):=by
 unfold q5G at e;split at e
 ·rename_i el' k' xs
  cases hk:(Nat.beq el' el&&decide (k'=k)) with
  | false=>rw[hk] at e;cases e
  | true =>
    rw[hk] at e;cases e;rw[zN8] at hk;have h1:el'=el:=zN9 hk.1;have h2:k'=k:=by simpa using hk.2
    subst h1 h2;simp[SV.enc,Ty.fv]
 ·cases e;simp[SV.enc,fvo,fvv]
 ·cases e
theorem qAO:∀ {t:Ty} {v:SV} {x:t.sem},t.zI9 v=some x->v.enc=.f (t.fv x)∧t.one=true
 | .int k,v,x,e=>⟨oH e,rfl⟩
 | .bool,v,x,e=>⟨sD e,rfl⟩
 | .str,v,x,e=>⟨gX e,rfl⟩
 | .list el t,v,x,e=>⟨by rw[q2Q e];simp[SV.enc],rfl⟩
 | .ol el k,v,x,e=>⟨qXM e,rfl⟩
 | .nif,v,x,e=>by
   have e:q7C v=some x:=e;refine⟨?_,rfl⟩;unfold q7C at e;split at e
   ·simp[SV.enc,Ty.fv]
   ·simp[SV.enc,Ty.fv,fvv]
   ·cases e
 | .raw,v,x,e=>by
   have e:asR v=some x:=e;refine⟨?_,rfl⟩;unfold asR at e;split at e
   ·cases e;simp[SV.enc]
   ·cases e
 | .unit,v,x,e=>by cases e
 | .pair a b,v,x,e=>by cases e
def q1R (t:Ty):List SV->Option (t.sem×List SV)
 | v::l=>match t.zI9 v with
   | some x=>some (x,l)
   | none=>none
 | []=>none
def Ty.zHT:(t:Ty)->List SV->Option (t.sem×List SV)
 | .int k,l=>q1R (.int k) l
 | .bool,l=>q1R .bool l
 | .str,l=>q1R .str l
 | .raw,l=>q1R .raw l
 | .ol el k,l=>q1R (.ol el k) l
 | .nif,l=>q1R .nif l
 | .list el t,l=>q1R (.list el t) l
 | .unit,l=>some ((),l)
 | .pair a b,l=>match a.zHT l with
   | some (x,l1)=>(match b.zHT l1 with
     | some (y,l2)=>some ((x,y),l2)
     | none=>none)
   | none=>none
theorem fT {t:Ty}{l':List SV}{x:t.sem}(e:q1R t l=some (x,l')):qB l=(t.cells x).map .f++qB l':=by
 cases l with
 | nil=>cases e
 | cons v l =>
   unfold q1R at e;simp only at e;split at e
   ·rename_i y hy;cases e;obtain⟨h1,h2⟩:=qAO hy;rw[Ty.cells_one h2];simp[qB,h1]
   ·cases e
theorem qAV:∀ {t:Ty} {l l':List SV} {x:t.sem},t.zHT l=some (x,l')->qB l=(t.cells x).map .f++qB l'
 | .int k,l,l',x,e=>fT e
 | .bool,l,l',x,e=>fT e
 | .str,l,l',x,e=>fT e
 | .raw,l,l',x,e=>fT e
 | .ol _ _,l,l',x,e=>fT e
 | .nif,l,l',x,e=>fT e
 | .list el t,l,l',x,e=>fT e
 | .unit,l,l',x,e=>by cases e;simp[Ty.cells]
 | .pair a b,l,l',x,e=>by
   unfold Ty.zHT at e;split at e
   ·rename_i x1 l1 h1;split at e
    ·rename_i y l2 h2;cases e;show qB l=(a.cells x1++b.cells y).map .f++qB l';rw[qAV h1,qAV h2,zPQ,zO8]
    ·cases e
   ·cases e
def Ty.zHD (t:Ty)(l:List SV):Option t.sem:=match t.zHT l with
 | some (x,[])=>some x
 | _=>none
theorem oI {t:Ty}{x:t.sem}(e:t.zHD l=some x):qB l=(t.cells x).map .f:=by
 unfold Ty.zHD at e;split at e
 ·rename_i y hy;cases e;rw[qAV hy];simp[qB]
 ·cases e
def qGX (P:Program)(t:TypeId)(l:List SV)(off:Nat):Option SV:=match qLX P t with
 | some true=>(match szT P t with
   | some n=>cond (Nat.ble (off+n) l.length) (some (.agg ((l.drop off).take n))) none
   | none=>none)
 | some false=>zH l off
 | none=>none
omit [Yl] in
theorem qL1 {b:List SV}(x:okL h a)(hs:∀ z∈b,z∈a):okL h b:=zI.2 fun z hz=>zI.1 x z (hs z hz)
theorem qHH (e:qGX P t l off=some v):aO P t (qB l) off=some v.enc∧(okL h l->v.ok h):=by
 unfold qGX at e;unfold aO;split at e
 ·rename_i ha;rw[ha];simp only;split at e
  ·rename_i n hn;rw[hn];simp only
   cases hc:Nat.ble (off+n) l.length with
   | false=>rw[hc] at e;cases e
   | true =>
     rw[hc] at e;cases e;refine⟨by rw[zF,zOK,hc];simp[SV.enc,zF,zQN,zQI],fun ho=>?_⟩;simp only[SV.ok];exact qL1 ho fun z hz=>zQ9 (zQ8 hz)
  ·cases e
 ·rename_i ha;rw[ha];simp only;rw[qV,e];exact⟨rfl,fun ho=>nA ho e⟩
 ·cases e
theorem qB6 {t':Ty}{xs:List t'.sem}{x:t'.sem}(hx:xs[j]?=some x)(e:qGX P t (t'.svs x) off=some v) :
 aO P t ((xs.flatMap t'.cells).map .f) (j*t'.w+off)=some v.enc∧qMO P t (xs.flatMap t'.cells) (j*t'.w+off)=some v.enc∧v.ok h:=by
 have h0:=qHH (h:=h) e;refine⟨?_,?_,h0.2 (qEQ t' x)⟩
 all_goals
  have h1:=h0.1;rw[gZ] at h1;unfold aO at h1
 ·unfold aO;split at h1
  ·rename_i ha;split at h1
   ·rename_i n hn
    cases hc:Nat.ble (off+n) ((t'.cells x).map PV.f).length with
    | false=>rw[hc] at h1;cases h1
    | true =>
      rw[hc] at h1
      have hle:off+n<=t'.w:=by
       have:=zOH hc;rw[zOK,t'.zEZ] at this;exact this
      rw[show Nat.ble (j*t'.w+off+n) ((xs.flatMap t'.cells).map PV.f).length=true from zOR (by rw[zOK];exact qGJ hx hle)];simp only[cond_true] at h1 ⊢;rw[<-h1,<-zQN,<-zQI,qI2 hx hle,<-zQN,<-zQI]
   ·cases h1
  ·rename_i ha;rw[qF,zOO] at h1 ⊢
   have hlt:off < t'.w:=by
    rw[<-t'.zEZ x]
    cases hq:(t'.cells x)[off]? with
    | none=>rw[hq] at h1;cases h1
    | some y=>exact (zOE.1 hq).1
   rw[Go.Sv.flat_get hx hlt];exact h1
  ·cases h1
 ·unfold qMO;split at h1
  ·rename_i ha;split at h1
   ·rename_i n hn
    cases hc:Nat.ble (off+n) ((t'.cells x).map PV.f).length with
    | false=>rw[hc] at h1;cases h1
    | true =>
      rw[hc] at h1
      have hle:off+n<=t'.w:=by
       have:=zOH hc;rw[zOK,t'.zEZ] at this;exact this
      rw[show Nat.ble (j*t'.w+off+n) (xs.flatMap t'.cells).length=true from zOR (qGJ hx hle)];simp only[cond_true] at h1 ⊢;rw[<-h1,qI2 hx hle,<-zQN,<-zQI]
   ·cases h1
  ·rename_i ha;rw[qF,zOO] at h1
   cases hq:(t'.cells x)[off]? with
   | none=>rw[hq] at h1;cases h1
   | some y =>
     rw[hq] at h1
     have hlt:off < t'.w:=by
      rw[<-t'.zEZ x];exact (zOE.1 hq).1
     rw[Go.Sv.flat_get hx hlt,hq];exact h1
  ·cases h1
def zBS:List SV->Option IntKind
 | v::_=>(asI v).map Prod.fst
 | []=>none
def qCU (ik:IntKind):List SV->Option (List Int)
 | []=>some []
 | v::l=>match q6H ik v,qCU ik l with
   | some x,some xs=>some (x::xs)
   | _,_=>none
def qZC (off:Nat)(v:Int)(xs:List Int):Option (List Int):=if off < xs.length then some (xs.set off v) else none
def spread (ik:IntKind)(n:Nat)(ys:List Int):List SV:=(List.range n).map fun i=>SV.d (.int ik) (ys.getD i 0:Int)
theorem wY {ik:IntKind}:∀ {l:List SV} {xs:List Int},qCU ik l=some xs->qB l=xs.map fun x=>fvv (.int ik x)
 | [],xs,e=>by cases e;simp[qB]
 | v::l,xs,e=>by
   unfold qCU at e;split at e
   ·rename_i x ys hx hy;cases e;simp only[qB,zOQ,oH hx,wY hy]
   ·cases e
theorem rH (h:ys.length=n):qB (spread ik n ys)=ys.map fun x=>fvv (.int ik x):=by
 rw[zF];unfold spread;rw[zQJ];apply zPR;intro i;rw[zOO,zOO];by_cases hi:i < n
 ·rw[zSP hi,zOC (by omega:i < ys.length)];simp only[zOM,Function.comp,zOG];rw[zPN,zOC (by omega:i < ys.length)];simp[SV.enc,Ty.fv,fvv]
 ·rw[zPK (by simp;omega),zPK (by omega)];rfl
theorem qIW:okL h (spread ik n ys):=zI.2 fun x hx=>by
 unfold spread at hx;obtain⟨i,_,rfl⟩:=zOZ.1 hx;simp[SV.ok]
def zBQ (P:Program)(t:TypeId)(off w:Nat)(el:TypeId)(ik:IntKind)(xs:List Int)(K:SV->zEP R):zEP R:=cond (spec P el) .fail (match qLX P t,szT P t with
 | some false,_=>.ite (Nat.beq w (List.length xs)) (.bind (xs[off]?) fun x=>K (.d (.int ik) (x:Int))) .fail
 | some true,some n=>cond (Nat.beq off 0&&Nat.beq n w) (.ite (Nat.beq w (List.length xs)) (K (.agg (spread ik w xs))) .fail) .fail
 | _,_=>.fail)
theorem qYI {k:Nat}{K:SV->zEP R}(hk:qA k (qC h.l)=some (SO.spc w' (.arr el ik xs)).enc)(e:(zBQ P t off w el ik xs K).run=some r):∃ v,fO P t (.ref k w off) (qC h.l)=some v.enc∧v.ok h∧(K v).run=some r:=by
 unfold zBQ at e
 cases hsp:spec P el with
 | true=>rw[hsp] at e;cases e
 | false =>
 rw[hsp] at e;simp only[cond_false] at e
 have pre:fO P t (.ref k w off) (qC h.l)=cond (Nat.beq w xs.length) (aO P t (xs.map fun x=>fvv (.int ik x)) off) none:=by
  simp only[fO,hk];show cond (spec P el) none (cond (Nat.beq w (xs.map fun x=>fvv (.int ik x)).length) _ none)=_;rw[hsp,zOK];rfl
 rw[pre];split at e
 ·rename_i ha
  rcases run_ite e with ⟨z,e1⟩ | ⟨_,e1⟩
  ·obtain⟨x,hx,e2⟩:=run_bind e1;refine⟨_,?_,by simp[SV.ok],e2⟩;rw[z];simp only[cond_true,aO,ha];rw[qF,zOO,hx];simp[SV.enc,Ty.fv,fvv]
  ·cases e1
 ·rename_i n ha hn;obtain⟨c,e0⟩:=qE e;rw[zN8] at c;have h0:=zN9 c.1;have h1:=zN9 c.2;subst h0 h1
  rcases run_ite e0 with ⟨z,e1⟩ | ⟨_,e1⟩
  ·refine⟨_,?_,by simp only[SV.ok];exact qIW,e1⟩;have hl:=zN9 z;rw[z];simp only[cond_true,aO,ha,hn];rw[show Nat.ble (0+n) (xs.map fun x=>fvv (.int ik x)).length=true from zOR (by rw[zOK];omega)];simp only[cond_true,zPU,SV.enc];rw[rH hl.symm,zO2 (by rw[zOK];omega)]
  ·cases e1
 ·cases e
def q5X (P:Program)(t:TypeId)(a:SV)(h:SH)(K:SV->zEP R):zEP R:=match a with
 | .ref k off w=>(match slk k h.l with
   | some (.cells el _ l)=>(match qGX P t l off with
     | some v=>cond (!(spec P el)&&Nat.beq w l.length) (K v) .fail
     | none=>.fail)
   | some (.spc _ (.arr el ik xs))=>zBQ P t off w el ik xs K
   | _=>.fail)
 | .elt k g n w j off=>(match slk k h.l with
   | some (.list _ _ g' _ t' xs)=>cond (Nat.beq g g'&&Nat.beq w t'.w) (.bind (xs[j]?) fun x=>match qGX P t (t'.svs x) off with
     | some v=>K v
     | none=>.fail) .fail
   | _=>.fail)
 | .lp t' xs j off=>.bind (xs[j]?) fun x=>match qGX P t (t'.svs x) off with
   | some v=>K v
   | none=>.fail
 | .rfx k off w=>(match slk k h.l with
   | some (.cells el _ l)=>(match zBS l with
     | some ik=>(match qCU ik l,qLX P t with
       | some xs,some false=>cond (!(spec P el)&&Nat.beq w l.length) (.bind (xs[off]?) fun x=>K (.d (.int ik) (x:Int))) .fail
       | _,_=>.fail)
     | none=>.fail)
   | some (.spc _ (.arr el ik xs))=>zBQ P t off w el ik xs K
   | _=>.fail)
 | .etx k g n w j off=>(match slk k h.l with
   | some (.list _ _ g' _ t' xs)=>cond (Nat.beq g g'&&Nat.beq w t'.w) (.bind (xs[j]?) fun x=>match zBS (t'.svs x) with
     | some ik=>(match qCU ik (t'.svs x),qLX P t with
       | some ys,some false=>.bind (ys[off]?) fun z=>K (.d (.int ik) (z:Int))
       | _,_=>.fail)
     | none=>.fail) .fail
   | _=>.fail)
 | _=>.fail
theorem qQ (l:List SV):(qB l).length=l.length:=by rw[zF,zOK]
theorem zL {k:Nat}{ob:SO}{l:List (Nat×SO)}(e:slk k l=some ob):qA k (qC l)=some ob.enc:=by rw[vI,e];rfl
theorem qU {gr:Bool}{g:Nat}{t:Ty}{xs:List t.sem}:(SO.list el gr g w t xs).enc.cs.length=xs.length*t.w:=by
 show ((xs.flatMap t.cells).map PV.f).length=_;rw[zOK,zV]
theorem q2S {a:SV}{K:SV->zEP R}(ho:OkH P h)(ha:a.ok h)(e:(q5X P t a h K).run=some r):∃ v,fO P t a.enc (qC h.l)=some v.enc∧v.ok h∧(K v).run=some r:=by
 unfold q5X at e;split at e
 ·rename_i k off w;split at e
  ·rename_i el w' l hk;split at e
   ·rename_i v hv;obtain⟨h1,h2⟩:=qE e;rw[zN8,zO0] at h1;obtain⟨hsp,h1⟩:=h1;obtain⟨h3,h4⟩:=qHH (h:=h) hv;refine⟨v,?_,h4 (ho.cells _ _ _ _ hk),h2⟩;simp only[SV.enc,fO,zL hk];show cond (spec P el) none (cond (Nat.beq w (qB l).length) (aO P t (qB l) off) none)=_;rw[qQ,h1,hsp];exact h3
   ·cases e
  ·rename_i w' el ik xs hk;obtain⟨v,h1,h2,h3⟩:=qYI (zL hk) e;exact⟨v,by simp only[SV.enc];exact h1,h2,h3⟩
  ·cases e
 ·rename_i k g n w j off;split at e
  ·rename_i el gr g' w' t' xs hk;obtain⟨h1,h2⟩:=qE e;rw[zN8] at h1;have hg:g=g':=zN9 h1.1;have hw:w=t'.w:=zN9 h1.2;subst hg hw;obtain⟨x,hx,h3⟩:=run_bind h2;split at h3
   ·rename_i v hv;have h5:=qB6 (h:=h) hx hv;refine⟨v,?_,h5.2.2,h3⟩;simp only[SV.ok] at ha;have hn:n=xs.length:=ha.2 _ _ _ _ _ hk;simp only[SV.enc,fO,zL hk];rw[qU,hn,show spec P (SO.list el gr g w' t' xs).enc.el=false from kE (ho.list _ _ _ _ _ _ _ hk).2.1];simp only[aC,cond_true,cond_false];exact h5.1
   ·cases h3
  ·cases e
 ·rename_i t' xs j off;obtain⟨x,hx,h3⟩:=run_bind e;split at h3
  ·rename_i v hv;have h5:=qB6 (h:=h) hx hv;exact⟨v,by simp only[SV.enc,fO];exact h5.2.1,h5.2.2,h3⟩
  ·cases h3
 ·rename_i k off w;split at e
  ·rename_i el w' l hk;split at e
   ·rename_i ik hik;split at e
    ·rename_i xs hxs hag;obtain⟨h1,h2⟩:=qE e;rw[zN8,zO0] at h1;obtain⟨hsp,h1⟩:=h1;obtain⟨x,hx,h3⟩:=run_bind h2;refine⟨_,?_,by simp[SV.ok],h3⟩;simp only[SV.enc,fO,zL hk];show cond (spec P el) none (cond (Nat.beq w (qB l).length) (aO P t (qB l) off) none)=_;rw[qQ,h1,hsp];simp only[cond_true,cond_false];unfold aO;rw[hag];show zH (qB l) off=_;rw[qF,wY hxs,zOO,hx];simp[Ty.fv,fvv]
    ·cases e
   ·cases e
  ·rename_i w' el ik xs hk;obtain⟨v,h1,h2,h3⟩:=qYI (zL hk) e;exact⟨v,by simp only[SV.enc];exact h1,h2,h3⟩
  ·cases e
 ·rename_i k g n w j off;split at e
  ·rename_i el gr g' w' t' xs hk;obtain⟨h1,h2⟩:=qE e;rw[zN8] at h1;have hg:g=g':=zN9 h1.1;have hw:w=t'.w:=zN9 h1.2;subst hg hw;obtain⟨x,hx,h3⟩:=run_bind h2;split at h3
   ·rename_i ik hik;split at h3
    ·rename_i ys hys hag;obtain⟨z,hz,h4⟩:=run_bind h3;refine⟨_,?_,by simp[SV.ok],h4⟩;have hn1:zH (qB (t'.svs x)) off=some (fvv (.int ik z)):=by rw[qF,wY hys,zOO,hz];rfl
     rw[qV] at hn1;obtain⟨v0,hv0,hv1⟩:=zOL.1 hn1;have hsp:qGX P t (t'.svs x) off=some v0:=by unfold qGX;rw[hag];exact hv0
     have h5:=qB6 (h:=h) hx hsp;simp only[SV.ok] at ha;have hn:n=xs.length:=ha.2 _ _ _ _ _ hk;simp only[SV.enc,fO,zL hk];rw[qU,hn,show spec P (SO.list el gr g w' t' xs).enc.el=false from kE (ho.list _ _ _ _ _ _ _ hk).2.1];simp only[aC,cond_true,cond_false];have h6:=h5.1;rw[hv1] at h6;rw[show (SO.list el gr g w' t' xs).enc.cs=(xs.flatMap t'.cells).map .f from rfl,h6];simp[Ty.fv,fvv]
    ·cases h3
   ·cases h3
  ·cases e
 ·cases e
def Post (P:Program)(h h':SH)(v:SV):Prop:=Keep h h'∧OkH P h'∧v.ok h'
def yO:SV->List SV
 | .agg l=>l
 | v=>[v]
theorem dK (v:SV):zD v.enc=qB (yO v):=by
 cases v <;> simp[SV.enc,zD,yO,qB,fvv];rename_i b _ _ _;cases b <;> rfl
omit [Yl] in
theorem qBB (hv:v.ok h):okL h (yO v):=by
 cases v <;> simp only[yO,okL,SV.ok,and_true] at hv ⊢ <;> exact hv
def qBG (l:List SV)(i:Nat)(vs:List SV):List SV:=l.take i++vs++l.drop (i+vs.length)
theorem qBU (l vs:List SV)(i:Nat):qB (qBG l i vs)=yG (qB l) i (qB vs):=by
 simp[qBG,yG,zF,zQI,zQN]
omit [Yl] in
theorem qRB {vs:List SV}{i:Nat}(a:okL h l)(b:okL h vs):okL h (qBG l i vs) :=
 fG (fG (qL1 a fun z hz=>zQ8 hz) b) (qL1 a fun z hz=>zQ9 hz)
omit [Yl] in
theorem q0C {α:Type}(A B C:List α)(c:List α)(hle:off+c.length<=B.length) :
 (A++B++C).take (A.length+off)++c++(A++B++C).drop (A.length+off+c.length)=A++(B.take off++c++B.drop (off+c.length))++C:=by
 rw[zO8 A B C,List.take_append,zO2 (by omega),zR2,List.take_append_of_le_length (by omega)];rw[zQA,List.drop_append,zR7 (by omega),zR2,List.nil_append,List.drop_append_of_le_length (by omega)];simp[zO8]
omit [Yl] in
theorem qD8 {t:Ty}{xs:List t.sem}{x:t.sem}(hx:xs[j]?=some x)(y:t.sem):(xs.set j y).flatMap t.cells=(xs.take j).flatMap t.cells++t.cells y++(xs.drop (j+1)).flatMap t.cells:=by
 have hl:=(zOE.1 hx).1;rw[zQL,if_pos hl,zRG,zO1,zO8]
omit [Yl] in
theorem qFH {t:Ty}{xs:List t.sem}{x y:t.sem}(hx:xs[j]?=some x){c:List PV}(hle:off+c.length<=t.w)(hy:yG ((t.cells x).map .f) off c=(t.cells y).map .f) :
 yG ((xs.flatMap t.cells).map .f) (j*t.w+off) c=((xs.set j y).flatMap t.cells).map .f:=by
 have hl:=(zOE.1 hx).1
 have e0:xs.set j x=xs:=by
  apply zPR;intro i;rw[zO4];by_cases e:j=i
  ·subst e;rw[if_pos rfl,if_pos hl,hx]
  ·rw[if_neg e]
 have e1:=qD8 hx x;rw[e0] at e1;rw[qD8 hx y,e1];simp only[zPQ];unfold yG;have hA:(((xs.take j).flatMap t.cells).map PV.f).length=j*t.w:=by rw[zOK,zV,zPX,zP2 (by omega)]
 rw[<-hA,q0C _ _ _ _ (by rw[zOK,t.zEZ];exact hle)];unfold yG at hy;rw[hy]
def zBJ (P:Program)(n off w:Nat)(el:TypeId)(ik:IntKind)(xs:List Int)(k:Nat)(x:SV)(h:SH)(K:SV->SH->zEP R):zEP R:=cond (spec P el) .fail (match x with
 | .agg l=>(match qCU ik l with
   | some ys=>cond (Nat.beq off 0&&(Nat.beq n w&&Nat.beq n (List.length l))) (.ite (Nat.beq w (List.length xs)) (K (.tup []) (h.put k fun u=>.spc u (.arr el ik ys))) .fail) .fail
   | none=>.fail)
 | x=>(match q6H ik x with
   | some v=>cond (Nat.beq n 1) (.ite (Nat.beq w (List.length xs)) (.bind (qZC off v xs) fun ys=>K (.tup []) (h.put k fun u=>.spc u (.arr el ik ys))) .fail) .fail
   | none=>.fail))
theorem qIS {ik:IntKind}:∀ {l:List SV} {xs:List Int},qCU ik l=some xs->xs.length=l.length
 | [],xs,e=>by cases e;rfl
 | v::l,xs,e=>by
   unfold qCU at e;split at e
   ·rename_i x ys hx hy;cases e;simp[qIS hy]
   ·cases e
theorem qWX {k:Nat}{K:SV->SH->zEP R}(ho:OkH P h)(hn:szT P t=some n)(hk:slk k h.l=some (.spc w' (.arr el ik xs)))(e:(zBJ P n off w el ik xs k x h K).run=some r) :
 ∃ h',jQ P t (.ref k w off) x.enc (qC h.l)=some (qC h'.l)∧Keep h h'∧OkH P h'∧(K (.tup []) h').run=some r:=by
 unfold zBJ at e
 cases hsp:spec P el with
 | true=>rw[hsp] at e;cases e
 | false =>
 rw[hsp] at e;simp only[cond_false] at e;have hp:∀ ys:List Int,Keep h (h.put k fun u=>.spc u (.arr el ik ys))∧OkH P (h.put k fun u=>.spc u (.arr el ik ys)):=fun ys=>vS (f:=fun u=>.spc u (.arr el ik ys)) ho hk rfl
 have pre:jQ P t (.ref k w off) x.enc (qC h.l)=cond (Nat.beq w xs.length&&(Nat.beq n (zD x.enc).length&&(Nat.ble (off+n) xs.length&&(pnt x.enc&&(zD x.enc).all aN)))) (some (xQ k ⟨el,false,yG (xs.map fun x=>fvv (.int ik x)) off (zD x.enc)⟩ (qC h.l))) none:=by
  simp only[jQ,zL hk,hn];show cond (spec P el) none (cond (Nat.beq w (xs.map fun x=>fvv (.int ik x)).length&&(Nat.beq n (zD x.enc).length&&(Nat.ble (off+n) (xs.map fun x=>fvv (.int ik x)).length&&(pnt x.enc&&(zD x.enc).all aN)))) _ none)=_;rw[hsp,zOK];rfl
 have fin:∀ ys:List Int,qC (h.put k fun u=>.spc u (.arr el ik ys)).l=xQ k ⟨el,false,ys.map fun x=>fvv (.int ik x)⟩ (qC h.l):=fun ys=>xX k _ _
 split at e
 ·rename_i l;split at e
  ·rename_i ys hys;obtain⟨c,e0⟩:=qE e;simp only[zN8] at c;have h0:=zN9 c.1;have h1:=zN9 c.2.1;have h2:=zN9 c.2.2;subst h0
   rcases run_ite e0 with ⟨z,e1⟩ | ⟨_,e1⟩
   ·have hl:=zN9 z;refine⟨_,?_,(hp ys).1,(hp ys).2,e1⟩;rw[pre,fin ys];have hle:=qIS hys;simp only[SV.enc,zD,wY hys,zOK];rw[z,show Nat.beq n ys.length=true by rw[hle,<-h2];exact aC _,show Nat.ble (0+n) xs.length=true from zOR (by omega),show ((ys.map fun x=>fvv (.int ik x)).all aN)=true by simp[zOB,fvv,aN]];simp only[pnt,zO5,cond_true];unfold yG;rw[List.take_zero,zR7 (by simp only[zOK];omega)];simp
   ·cases e1
  ·cases e
 ·split at e
  ·rename_i v hv;obtain⟨c,e0⟩:=qE e;have h1:=zN9 c;subst h1
   rcases run_ite e0 with ⟨z,e1⟩ | ⟨_,e1⟩
   ·obtain⟨ys,hys,e2⟩:=run_bind e1;unfold qZC at hys;split at hys
    case isFalse=>cases hys
    rename_i hlt;cases hys;refine⟨_,?_,(hp _).1,(hp _).2,e2⟩;rw[pre,fin,oH hv];rw[show Nat.ble (off+1) xs.length=true from zOR hlt,z];show some (xQ k ⟨el,false,yG (xs.map fun x=>fvv (.int ik x)) off [fvv (.int ik v)]⟩ (qC h.l))=_
    have:yG (xs.map fun x=>fvv (.int ik x)) off [fvv (.int ik v)]=(xs.set off v).map fun x=>fvv (.int ik x):=by
     rw[List.map_set,zQL,if_pos (by rw[zOK];exact hlt)];unfold yG;simp
    rw[this]
   ·cases e1
  ·cases e
def qTZ (P:Program)(t:TypeId)(a x:SV)(h:SH)(K:SV->SH->zEP R):zEP R:=match szT P t with
 | some n=>(match a with
   | .ref k off w=>(match slk k h.l with
     | some (.cells el _ l)=>cond (!(spec P el)&&(Nat.beq w l.length&&(Nat.beq n (yO x).length&&(Nat.ble (off+n) l.length&&(pnt x.enc&&(qB (yO x)).all aN)))))
        (K (.tup []) (h.put k fun v=>.cells el v (qBG l off (yO x)))) .fail
     | some (.spc _ (.arr el ik xs))=>zBJ P n off w el ik xs k x h K
     | _=>.fail)
   | .elt k g m w j off=>(match slk k h.l with
     | some (.list el gr g' _ t' xs)=>cond (Nat.beq g g'&&(Nat.beq w t'.w&&(Nat.beq n (yO x).length&&(Nat.ble (off+n) w&&(pnt x.enc&&(qB (yO x)).all aN)))))
        (.bind (xs[j]?) fun y=>match t'.zHD (qBG (t'.svs y) off (yO x)) with
          | some z=>K (.tup []) (h.put k fun v=>.list el gr g v t' (List.set xs j z))
          | none=>.fail) .fail
     | _=>.fail)
   | .rfx k off w=>(match slk k h.l with
     | some (.cells el _ l)=>(match zBS l with
       | some ik=>(match qCU ik l,q6H ik x with
         | some xs,some v=>cond (!(spec P el)&&(Nat.beq w l.length&&Nat.beq n 1)) (.bind (qZC off v xs) fun ys=>K (.tup []) (h.put k fun u=>.cells el u (spread ik (List.length xs) ys))) .fail
         | _,_=>.fail)
       | none=>.fail)
     | some (.spc _ (.arr el ik xs))=>zBJ P n off w el ik xs k x h K
     | _=>.fail)
   | .etx k g m w j off=>(match slk k h.l with
     | some (.list el gr g' _ t' xs)=>cond (Nat.beq g g'&&(Nat.beq w t'.w&&Nat.beq n 1)) (.bind (xs[j]?) fun y=>match zBS (t'.svs y) with
       | some ik=>(match qCU ik (t'.svs y),q6H ik x with
         | some ys,some v=>.bind (qZC off v ys) fun zs=>match t'.zHD (spread ik (List.length ys) zs) with
           | some z=>K (.tup []) (h.put k fun v=>.list el gr g v t' (List.set xs j z))
           | none=>.fail
         | _,_=>.fail)
       | none=>.fail) .fail
     | _=>.fail)
   | _=>.fail)
 | none=>.fail
theorem qU3 {a:SV}{K:SV->SH->zEP R}(ho:OkH P h)(ha:a.ok h)(hx:x.ok h)(e:(qTZ P t a x h K).run=some r) :
 ∃ h',jQ P t a.enc x.enc (qC h.l)=some (qC h'.l)∧Keep h h'∧OkH P h'∧(K (.tup []) h').run=some r:=by
 unfold qTZ at e;split at e
 ·rename_i n hn;split at e
  ·rename_i k off w;split at e
   ·rename_i el w' l hk;obtain⟨h1,h2⟩:=qE e;rw[zN8,zO0] at h1;obtain⟨hsp,h1⟩:=h1;have hp:=vS (f:=fun v=>.cells el v (qBG l off (yO x))) ho hk ⟨rfl,qRB (ho.cells _ _ _ _ hk) (qBB hx)⟩;refine⟨_,?_,hp.1,hp.2,h2⟩;simp only[SV.enc,jQ,zL hk,hn];show cond (spec P el) none (cond (Nat.beq w (qB l).length&&(Nat.beq n (zD x.enc).length&&(Nat.ble (off+n) (qB l).length&&(pnt x.enc&&(zD x.enc).all aN)))) _ _)=_;rw[dK,qQ,qQ,h1,hsp];simp only[cond_true];rw[show qC (h.put k fun v=>.cells el v (qBG l off (yO x))).l=xQ k (SO.enc (.cells el h.next (qBG l off (yO x)))) (qC h.l) from xX k _ _];show some (xQ k ⟨el,false,yG (qB l) off (qB (yO x))⟩ (qC h.l))=some (xQ k ⟨el,false,qB (qBG l off (yO x))⟩ (qC h.l));rw[qBU]
   ·rename_i w' el ik xs hk;obtain⟨h',h1,h2,h3,h4⟩:=qWX (t:=t) ho hn hk e;exact⟨h',by simp only[SV.enc];exact h1,h2,h3,h4⟩
   ·cases e
  ·rename_i k g m w j off;split at e
   ·rename_i el gr g' w' t' xs hk;obtain⟨h1,h2⟩:=qE e;simp only[zN8] at h1;obtain⟨q1,q2,q3,q4,q5,q6⟩:=h1;have hg:g=g':=zN9 q1;have hw:w=t'.w:=zN9 q2;subst hg hw;obtain⟨y,hy,h3⟩:=run_bind h2;split at h3
    ·rename_i z hz;have hp:=vS (f:=fun v=>.list el gr g v t' (List.set xs j z)) ho hk ⟨_,rfl,by simp⟩;refine⟨_,?_,hp.1,hp.2,h3⟩;simp only[SV.ok] at ha;have hm:m=xs.length:=ha.2 _ _ _ _ _ hk;have hle:off+n<=t'.w:=zOH q4;simp only[SV.enc,jQ,zL hk,hn];rw[qU,hm,dK,qQ,show spec P (SO.list el gr g w' t' xs).enc.el=false from kE (ho.list _ _ _ _ _ _ _ hk).2.1]
     have hjl:j*t'.w+off+n<=xs.length*t'.w:=by
      have:=qGJ hy hle
      rwa [zV] at this
     rw[q3,q5,q6,show Nat.ble (j*t'.w+off+n) (xs.length*t'.w)=true from zOR hjl];simp only[aC,zO5,cond_true,cond_false];rw[show qC (h.put k fun v=>.list el gr g v t' (List.set xs j z)).l=xQ k (SO.enc (.list el gr g h.next t' (List.set xs j z))) (qC h.l) from xX k _ _];show some (xQ k ⟨el,gr,yG ((xs.flatMap t'.cells).map .f) (j*t'.w+off) (qB (yO x))⟩ (qC h.l))=some (xQ k ⟨el,gr,((List.set xs j z).flatMap t'.cells).map .f⟩ (qC h.l));have hnl:n=(qB (yO x)).length:=by rw[qQ];exact zN9 q3
     rw[qFH hy (y:=z) (by rw[<-hnl];exact hle) (by rw[<-gZ,<-qBU];exact oI hz)]
    ·cases h3
   ·cases e
  ·rename_i k off w;split at e
   ·rename_i el w' l hk;split at e
    ·rename_i ik hik;split at e
     ·rename_i xs v hxs hv;obtain⟨h1,h2⟩:=qE e;simp only[zN8,zO0] at h1;obtain⟨hsp,hw,hn1⟩:=h1;have hn2:=zN9 hn1;subst hn2;obtain⟨ys,hys,h3⟩:=run_bind h2;unfold qZC at hys;split at hys
      case isFalse=>cases hys
      rename_i hlt;cases hys;have hp:=vS (f:=fun u=>.cells el u (spread ik (List.length xs) (xs.set off v))) ho hk ⟨rfl,qIW⟩;refine⟨_,?_,hp.1,hp.2,h3⟩;have hel:=wY hxs;have hll:(qB l).length=xs.length:=by rw[hel,zOK]
      simp only[SV.enc,jQ,zL hk,hn];rw[oH hv];show cond (spec P el) none (cond (Nat.beq w (qB l).length&&(Nat.beq 1 1&&(Nat.ble (off+1) (qB l).length&&(true&&true)))) (some (xQ k ⟨el,false,yG (qB l) off [fvv (.int ik v)]⟩ (qC h.l))) none)=_;rw[hsp,show Nat.beq w (qB l).length=true by rw[qQ];exact hw,hll,show Nat.ble (off+1) xs.length=true from zOR hlt];rw[show qC (h.put k fun u=>.cells el u (spread ik (List.length xs) (xs.set off v))).l=xQ k (SO.enc (.cells el h.next (spread ik (List.length xs) (xs.set off v)))) (qC h.l) from xX k _ _];show some (xQ k ⟨el,false,yG (qB l) off [fvv (.int ik v)]⟩ (qC h.l))=some (xQ k ⟨el,false,qB (spread ik (List.length xs) (xs.set off v))⟩ (qC h.l));rw[rH (by simp),hel]
      have:yG (xs.map fun x=>fvv (.int ik x)) off [fvv (.int ik v)]=(xs.set off v).map fun x=>fvv (.int ik x):=by
       rw[List.map_set,zQL,if_pos (by rw[zOK];exact hlt)];unfold yG;simp
      rw[this]
     ·cases e
    ·cases e
   ·rename_i w' el ik xs hk;obtain⟨h',h1,h2,h3,h4⟩:=qWX (t:=t) ho hn hk e;exact⟨h',by simp only[SV.enc];exact h1,h2,h3,h4⟩
   ·cases e
  ·rename_i k g m w j off;split at e
   ·rename_i el gr g' w' t' xs hk;obtain⟨h1,h2⟩:=qE e;simp only[zN8] at h1;obtain⟨q1,q2,q3⟩:=h1;have hg:g=g':=zN9 q1;have hw:w=t'.w:=zN9 q2;have hn2:=zN9 q3;subst hg hw hn2;obtain⟨y,hy,h3⟩:=run_bind h2;split at h3
    ·rename_i ik hik;split at h3
     ·rename_i ys v hys hv;obtain⟨zs,hzs,h4⟩:=run_bind h3;split at h4
      ·rename_i z hz;unfold qZC at hzs;split at hzs
       case isFalse=>cases hzs
       rename_i hlt;cases hzs;have hp:=vS (f:=fun v=>.list el gr g v t' (List.set xs j z)) ho hk ⟨_,rfl,by simp⟩;refine⟨_,?_,hp.1,hp.2,h4⟩;simp only[SV.ok] at ha;have hm:m=xs.length:=ha.2 _ _ _ _ _ hk;have hel:=wY hys
       have hcw:ys.length=t'.w:=by
        have:=congrArg List.length hel;rw[gZ,zOK,zOK,t'.zEZ] at this;exact this.symm
       have hle:off+1<=t'.w:=by omega
       simp only[SV.enc,jQ,zL hk,hn];rw[qU,hm,oH hv,show spec P (SO.list el gr g w' t' xs).enc.el=false from kE (ho.list _ _ _ _ _ _ _ hk).2.1]
       have hjl:j*t'.w+off+1<=xs.length*t'.w:=by
        have:=qGJ hy hle
        rwa [zV] at this
       rw[show Nat.ble (j*t'.w+off+1) (xs.length*t'.w)=true from zOR hjl];simp only[aC,cond_false];show some (xQ k ⟨el,gr,yG ((xs.flatMap t'.cells).map .f) (j*t'.w+off) [fvv (.int ik v)]⟩ (qC h.l))=_;rw[show qC (h.put k fun v=>.list el gr g v t' (List.set xs j z)).l=xQ k (SO.enc (.list el gr g h.next t' (List.set xs j z))) (qC h.l) from xX k _ _];show _=some (xQ k ⟨el,gr,((List.set xs j z).flatMap t'.cells).map .f⟩ (qC h.l));rw[qFH hy (y:=z) hle ?_];rw[<-oI hz,rH (by simp),<-gZ,hel,List.map_set,zQL,if_pos (by rw[zOK];exact hlt)];unfold yG;simp
      ·cases h4
     ·cases h3
    ·cases h3
   ·cases e
  ·cases e
 ·cases e
end
end Go.Sv
namespace Go.Sv
open Go.Idl
noncomputable section
variable [Gc]
variable [Yl]
variable {P:Program}{h:SH}{R:Type}{r:R}
def tyL:List (Option Ty)->Option Ty
 | []=>some .unit
 | [t]=>t.map fun t=>.pair t .unit
 | [a,b]=>match a,b with
   | some a,some b=>some (.pair a b)
   | _,_=>none
 | a::l=>match a,tyL l with
   | some a,some b=>some (.pair a b)
   | _,_=>none
def zDM (P:Program)(t:TypeId):Option Ty:=match P.underlying t with
 | some (.slice el)=>(match P.underlying el with
   | some (.int k)=>some (.ol el k)
   | _=>none)
 | _=>none
def qBA (P:Program):Nat->TypeId->Option Ty
 | 0,_=>none
 | n+1,t=>match P.underlying t with
   | some (.int k)=>some (.int k)
   | some .bool=>some .bool
   | some .string=>some .str
   | some (.slice el)=>(match qBA P n el with
     | some u=>some (.list el u)
     | none=>none)
   | some (.struct fields)=>tyL (fields.toList.map fun f=>cond (Gc.ol f.type) (zDM P f.type) (qBA P n f.type))
   | some (.array k el)=>tyL (List.replicate k (qBA P n el))
   | some (.interface ..)=>some .nif
   | _=>none
def zcS (P:Program)(t:TypeId):Option (List SV):=match qDA P t with
 | some z=>cond (jH okC z.cells.toList) (some (kY .c z.cells.toList)) none
 | none=>none
theorem nG {t:TypeId}{l:List SV}(e:zcS P t=some l):zc P t=some (qB l)∧okL h l:=by
 unfold zcS at e;unfold zc;split at e
 ·rename_i z hz
  cases hc:jH okC z.cells.toList with
  | false=>rw[hc] at e;cases e
  | true =>
    rw[hc] at e;cases e;rw[hz];simp only[hc,cond_true];exact⟨by rw[zBG],zBF _⟩
 ·cases e
def zC6 (P:Program)(el:TypeId)(l:List SV):Option (Nat×IntKind×List Int):=match qP1 P el with
 | some (m,e2)=>(match qBA P 8 e2 with
   | some (.int ik)=>(match qCU ik l with
     | some xs=>cond (Nat.beq l.length m) (some (m,ik,xs)) none
     | none=>none)
   | _=>none)
 | none=>none
theorem qP7 {el:TypeId}{l:List SV}{p:Nat×IntKind×List Int}(e:zC6 P el l=some p):qB l=(p.2.2.map fun x=>fvv (.int p.2.1 x))∧l.length=p.1:=by
 unfold zC6 at e;split at e
 ·split at e
  ·split at e
   ·rename_i xs hx;obtain⟨hc,e⟩:=yP e;cases e;exact⟨wY hx,zN9 hc⟩
   ·cases e
  ·cases e
 ·cases e
def qW6 (P:Program)(el:TypeId)(k:Nat)(h:SH)(K:SV->SH->zEP R):zEP R:=match zcS P el with
 | some l=>cond (spec P el) .fail (match zC6 P el l with
   | some p=>K (.ref k 0 p.1) (h.new k fun v=>.spc v (.arr el p.2.1 p.2.2))
   | none=>K (.ref k 0 l.length) (h.new k fun v=>.cells el v l))
 | none=>.fail
theorem qYR {el:TypeId}{k:Nat}{K:SV->SH->zEP R}(ho:OkH P h)(e:(qW6 P el k h K).run=some r):∃ v h',eP P el k (qC h.l)=some (v.enc,qC h'.l)∧Post P h h' v∧(K v h').run=some r:=by
 unfold qW6 at e;split at e
 ·rename_i l hl;obtain⟨h1,h2⟩:=nG (h:=h) hl;have hp:=xI (k:=k) (f:=fun v=>.cells el v l) ho ⟨rfl,h2⟩
  cases hsp:spec P el with
  | true=>rw[hsp] at e;cases e
  | false =>
  rw[hsp] at e;simp only[cond_false] at e;split at e
  ·rename_i p hpa;have hp:=xI (k:=k) (f:=fun v=>.spc v (.arr el p.2.1 p.2.2)) ho rfl;refine⟨_,_,?_,⟨hp.1,hp.2,by simp[SV.ok]⟩,e⟩;simp only[eP,h1,qDH,SV.enc,qQ,hsp,cond_false];rw[<- (qP7 hpa).2,(qP7 hpa).1];rfl
  ·refine⟨_,_,?_,⟨hp.1,hp.2,by simp[SV.ok]⟩,e⟩;simp only[eP,h1,qDH,SV.enc,qQ,hsp,cond_false];rfl
 ·cases e
def zDP (P:Program)(el:TypeId)(v:SV)(k:Nat)(h:SH)(K:SV->SH->zEP R):zEP R :=
 cond (!(spec P el)&&(pnt v.enc&&(qB (yO v)).all aN)) (K (.ref k 0 (yO v).length) (h.new k fun n=>.cells el n (yO v))) .fail
theorem q7Q {el:TypeId}{v:SV}{k:Nat}{K:SV->SH->zEP R}(ho:OkH P h)(hv:v.ok h)(e:(zDP P el v k h K).run=some r):∃ x h',q2V P el v.enc k (qC h.l)=some (x.enc,qC h'.l)∧Post P h h' x∧(K x h').run=some r:=by
 obtain⟨h1,h2⟩:=qE e;have hp:=xI (k:=k) (f:=fun n=>.cells el n (yO v)) ho ⟨rfl,qBB hv⟩;refine⟨_,_,?_,⟨hp.1,hp.2,by simp[SV.ok]⟩,h2⟩;unfold q2V;rw[dK,h1];simp only[cond_true,qDH,SV.enc,qQ];rfl
def qSL (place:Nat->Option (Nat×Nat)):List SV->List (Nat×SV)->Option (List SV)
 | cells,[]=>some cells
 | cells,(i,v)::rest=>match place i with
   | some (off,size)=>cond (Nat.beq (yO v).length size&&(Nat.ble (off+size) cells.length&&(pnt v.enc&&(qB (yO v)).all aN))) (qSL place (qBG cells off (yO v)) rest) none
   | none=>none
def q8E (l:List (Nat×SV)):List (Nat×PV):=l.map fun p=>(p.1,p.2.enc)
theorem nM {place:Nat->Option (Nat×Nat)}:∀ {l cs:List SV} {parts:List (Nat×SV)},qSL place l parts=some cs->qK3 place (qB l) (q8E parts)=some (qB cs)∧(okL h l->(∀ p∈parts,p.2.ok h)->okL h cs)
 | l,cs,[],e=>by cases e;exact⟨rfl,fun a _=>a⟩
 | l,cs,(i,v)::rest,e=>by
   unfold qSL at e;split at e
   ·rename_i off size hpl
    cases hc:(Nat.beq (yO v).length size&&(Nat.ble (off+size) l.length&&(pnt v.enc&&(qB (yO v)).all aN))) with
    | false=>rw[hc] at e;cases e
    | true =>
      rw[hc] at e;obtain⟨h1,h2⟩:=nM (l:=qBG l off (yO v)) e;refine⟨?_,fun a b=>h2 (qRB a (qBB (b _ zOI))) fun p hp=>b p (zOF _ hp)⟩
      show (match place i with
       | some (off,size)=>cond (Nat.beq (zD v.enc).length size&&(Nat.ble (off+size) (qB l).length&&(pnt v.enc&&(zD v.enc).all aN))) (qK3 place (yG (qB l) off (zD v.enc)) (q8E rest)) none
       | none=>none)=some (qB cs)
      rw[hpl];simp only;rw[dK,qQ,qQ,hc,<-qBU];exact h1
   ·cases e
def qWM (P:Program)(t:TypeId)(parts:List (Nat×SV)):Option SV:=match zcS P t with
 | some z=>cond (qCO P t) (match qSL (qW0 P t) z parts with
   | some cs=>some (.agg cs)
   | none=>none) none
 | none=>none
theorem qU7 {t:TypeId}{parts:List (Nat×SV)}{v:SV}(hp:∀ p∈parts,p.2.ok h)(e:qWM P t parts=some v):qJA P t (q8E parts)=some v.enc∧v.ok h:=by
 unfold qWM at e;split at e
 ·rename_i z hz;obtain⟨h1,h2⟩:=nG (h:=h) hz
  cases hb:qCO P t with
  | false=>rw[hb] at e;cases e
  | true =>
    rw[hb] at e;simp only[cond_true] at e;split at e
    ·rename_i cs hcs;cases e;obtain⟨h3,h4⟩:=nM (h:=h) hcs;simp only[qJA,h1,hb,cond_true,h3,SV.enc,SV.ok,true_and];exact h4 h2 hp
    ·cases e
 ·cases e
def Ty.zJA (t:Ty):Nat->List SV->Option (List t.sem)
 | 0,[]=>some []
 | 0,_::_=>none
 | n+1,l=>match t.zHT l with
   | some (x,l')=>(match t.zJA n l' with
     | some xs=>some (x::xs)
     | none=>none)
   | none=>none
theorem qPO {t:Ty}:∀ {n:Nat} {l:List SV} {xs:List t.sem},t.zJA n l=some xs->qB l=(xs.flatMap t.cells).map .f∧xs.length=n
 | 0,[],xs,e=>by cases e;simp[qB]
 | 0,_::_,xs,e=>by cases e
 | n+1,l,xs,e=>by
   unfold Ty.zJA at e;split at e
   ·rename_i x l' hx;split at e
    ·rename_i ys hy;cases e;obtain⟨h1,h2⟩:=qPO hy;rw[qAV hx,h1,zO1,zPQ];exact⟨rfl,by rw[zOU,h2]⟩
    ·cases e
   ·cases e
def qR9 (n:Nat)(z:List SV):List SV:=(List.replicate n z).flatten
theorem qAJ (n:Nat)(z:List SV):qB (qR9 n z)=qIB n (qB z):=by simp[qR9,qIB,zF,List.map_flatten]
def mO (P:Program)(t:TypeId)(len:Nat)(parts:List (Nat×SV))(k:Nat)(h:SH)(K:SV->SH->zEP R):zEP R:=match zP P t with
 | some el=>(match szT P el,zcS P el,qBA P 8 el with
   | some (s+1),some z,some ty=>cond (Nat.beq ty.w (s+1)) (cond (Nat.beq z.length (s+1)&&Nat.ble (len*(s+1)) 65536) (match qSL (fun i=>some (i*(s+1),s+1)) (qR9 len z) parts with
     | some cs=>(match ty.zJA len cs with
       | some xs=>K (.own k h.next len) (h.new k fun v=>.list el false v v ty xs)
       | none=>K (.own k h.next len) (h.new k fun v=>.cells el v cs))
     | none=>.fail) .fail) .fail
   | some (s+1),some z,none=>cond (Nat.beq z.length (s+1)&&Nat.ble (len*(s+1)) 65536) (match qSL (fun i=>some (i*(s+1),s+1)) (qR9 len z) parts with
     | some cs=>K (.own k h.next len) (h.new k fun v=>.cells el v cs)
     | none=>.fail) .fail
   | _,_,_=>.fail)
 | none=>.fail
omit [Yl] in
theorem wV {el:TypeId}{gr:Bool}{k n:Nat}{ty:Ty}{xs:List ty.sem}(hn:n=xs.length):(SV.own k h.next n).ok (h.new k fun v=>.list el gr v v ty xs):=by
 simp only[SV.ok];refine⟨zO6 _,fun el' gr' w' t' xs' hk=>?_⟩;rw[show slk k (h.new k fun v=>.list el gr v v ty xs).l=some (.list el gr h.next h.next ty xs) from jF] at hk;cases hk;exact hn
theorem qDL {t:TypeId}{len k:Nat}{parts:List (Nat×SV)}{K:SV->SH->zEP R}(ho:OkH P h)(hp:∀ p∈parts,p.2.ok h)(e:(mO P t len parts k h K).run=some r) :
 ∃ v h',yA P t len (q8E parts) k (qC h.l)=some (v.enc,qC h'.l)∧Post P h h' v∧(K v h').run=some r:=by
 unfold mO at e;split at e
 ·rename_i el hel;split at e
  ·rename_i s z ty hs hz hty;obtain⟨e1,e⟩:=qE e;obtain⟨e2,e⟩:=qE e;split at e
   ·rename_i cs hcs;split at e
    ·rename_i xs hxs;obtain⟨z1,z2⟩:=nG (h:=h) hz;obtain⟨f1,f2⟩:=nM (h:=h) hcs;obtain⟨d1,d2⟩:=qPO hxs;have hw:ty.w=s+1:=zN9 e1;have hn:=xI (k:=k) (f:=fun v=>.list el false v v ty xs) ho ⟨rfl,rfl,by rw[hs,hw],by omega⟩;refine⟨_,_,?_,⟨hn.1,hn.2,wV d2.symm⟩,e⟩;rw[qAJ] at f1;simp only[yA,hel,hs,z1,qQ,e2,cond_true,f1,qDH,SV.enc,d1];rfl
    ·obtain⟨z1,z2⟩:=nG (h:=h) hz;obtain⟨f1,f2⟩:=nM (h:=h) hcs
     have zII:okL h cs:=f2 (zI.2 fun x hx=>by
      unfold qR9 at hx;obtain⟨l,hl,hx⟩:=zRC.1 hx;rw[zQV hl] at hx
      exact zI.1 z2 x hx) hp
     have hn:=xI (k:=k) (f:=fun v=>.cells el v cs) ho ⟨rfl,zII⟩;refine⟨_,_,?_,⟨hn.1,hn.2,?_⟩,e⟩
     ·rw[qAJ] at f1;simp only[yA,hel,hs,z1,qQ,e2,cond_true,f1,qDH,SV.enc];rfl
     ·simp only[SV.ok];refine⟨zO6 _,fun el' gr' w' t' xs' hk=>?_⟩;rw[show slk k (h.new k fun v=>.cells el v cs).l=some (.cells el h.next cs) from jF] at hk;cases hk
   ·cases e
  ·rename_i s z hs hz hty;obtain⟨e2,e⟩:=qE e;split at e
   ·rename_i cs hcs;obtain⟨z1,z2⟩:=nG (h:=h) hz;obtain⟨f1,f2⟩:=nM (h:=h) hcs
    have zII:okL h cs:=f2 (zI.2 fun x hx=>by
     unfold qR9 at hx;obtain⟨l,hl,hx⟩:=zRC.1 hx;rw[zQV hl] at hx
     exact zI.1 z2 x hx) hp
    have hn:=xI (k:=k) (f:=fun v=>.cells el v cs) ho ⟨rfl,zII⟩;refine⟨_,_,?_,⟨hn.1,hn.2,?_⟩,e⟩
    ·rw[qAJ] at f1;simp only[yA,hel,hs,z1,qQ,e2,cond_true,f1,qDH,SV.enc];rfl
    ·simp only[SV.ok];refine⟨zO6 _,fun el' gr' w' t' xs' hk=>?_⟩;rw[show slk k (h.new k fun v=>.cells el v cs).l=some (.cells el h.next cs) from jF] at hk;cases hk
   ·cases e
  ·cases e
 ·cases e
def q7W (P:Program)(t:TypeId)(l:SV)(k:Nat)(h:SH)(K:SV->SH->zEP R):zEP R:=match zP P t,asI l with
 | some el,some (_,n)=>cond (zP P el).isSome (match szT P el,zcS P el with
   | some (s+1),some z=>cond (jA P el&&Nat.beq z.length (s+1)) (.bind (mkN n) fun N=>K (.own k h.next N) (h.new k fun v=>.cells el v (qR9 N z))) .fail
   | _,_=>.fail) (match szT P el,zcS P el,qBA P 8 el with
   | some (s+1),some z,some ty=>cond (jA P el&&(Nat.beq z.length (s+1)&&Nat.beq ty.w (s+1))) (match ty.zHD z with
     | some z0=>.bind (mkN n) fun N=>K (.own k h.next N) (h.new k fun v=>.list el false v v ty (List.replicate N z0))
     | none=>.fail) .fail
   | _,_,_=>.fail)
 | _,_=>.fail
omit [Yl] in
theorem qOS {t:Ty}{z:t.sem}:∀ (n:Nat),((List.replicate n z).flatMap t.cells).map PV.f=qIB n ((t.cells z).map .f)
 | 0=>rfl
 | n+1=>by
   rw[zP9,zO1,zPQ,qOS n];simp[qIB,zP9]
theorem q2D {t:TypeId}{l:SV}{k:Nat}{K:SV->SH->zEP R}(ho:OkH P h)(e:(q7W P t l k h K).run=some r) :
 ∃ v h',xA P t l.enc l.enc k (qC h.l)=some (v.enc,qC h'.l)∧Post P h h' v∧(K v h').run=some r:=by
 unfold q7W at e;split at e
 ·rename_i el ki n hel hl
  cases hb:(zP P el).isSome with
  | true =>
    rw[hb] at e;simp only[cond_true] at e;split at e
    ·rename_i s z hs hz;obtain⟨e1,e⟩:=qE e;obtain⟨N,hN,e⟩:=run_bind e;obtain⟨z1,z2⟩:=nG (h:=h) hz
     have zII:okL h (qR9 N z):=zI.2 fun x hx=>by
      unfold qR9 at hx;obtain⟨l,hl,hx⟩:=zRC.1 hx;rw[zQV hl] at hx;exact zI.1 z2 x hx
     have hn:=xI (k:=k) (f:=fun v=>.cells el v (qR9 N z)) ho ⟨rfl,zII⟩;refine⟨_,_,?_,⟨hn.1,hn.2,?_⟩,e⟩
     ·rw[yB hl];simp only[xA,fvv,hel,decide_true,cond_true,hN,hs,z1,qQ,e1,qDH,SV.enc];show some (PV.own k N 0 N,(k,(⟨el,false,qIB N (qB z)⟩:PO))::qC h.l)=some (PV.own k N 0 N,(k,⟨el,false,qB (qR9 N z)⟩)::qC h.l);rw[qAJ]
     ·simp only[SV.ok];refine⟨zO6 _,fun el' gr' w' t' xs' hk=>?_⟩;rw[show slk k (h.new k fun v=>.cells el v (qR9 N z)).l=some (.cells el h.next (qR9 N z)) from jF] at hk;cases hk
    ·cases e
  | false =>
  rw[hb] at e;simp only[cond_false] at e;split at e
  ·rename_i s z ty hs hz hty;obtain⟨e1,e⟩:=qE e;simp only[zN8] at e1;obtain⟨q1,q2,q3⟩:=e1;split at e
   ·rename_i z0 hz0;obtain⟨N,hN,e⟩:=run_bind e;obtain⟨z1,z2⟩:=nG (h:=h) hz;have hw:ty.w=s+1:=zN9 q3;have hn:=xI (k:=k) (f:=fun v=>.list el false v v ty (List.replicate N z0)) ho ⟨rfl,rfl,by rw[hs,hw],by omega⟩;refine⟨_,_,?_,⟨hn.1,hn.2,wV (xs:=List.replicate N z0) (by simp)⟩,e⟩;rw[yB hl];simp only[xA,fvv,hel,decide_true,cond_true,hN,hs,z1,qQ,q1,q2,zO5,qDH,SV.enc];show some (PV.own k N 0 N,(k,(⟨el,false,qIB N (qB z)⟩:PO))::qC h.l)=some (PV.own k N 0 N,(k,⟨el,false,((List.replicate N z0).flatMap ty.cells).map PV.f⟩)::qC h.l);rw[qOS,oI hz0]
   ·cases e
  ·cases e
 ·cases e
def qYZ (h:SH):SV->Bool
 | .ref k _ w=>match slk k h.l with
   | some (.cells _ _ l)=>Nat.beq w l.length
   | _=>false
 | .elt k g _ w _ _=>match slk k h.l with
   | some (.list _ _ g' _ t _)=>Nat.beq g g'&&Nat.beq w t.w
   | _=>false
 | .lp _ _ _ _=>true
 | _=>false
theorem qFZ {k off w:Nat}(e:qYZ h (.ref k off w)=true):live? k w (qC h.l)=true:=by
 simp only[qYZ] at e;split at e
 ·rename_i el w' l hk;unfold live?;rw[zL hk];show Nat.beq w (qB l).length=true;rw[qQ];exact e
 ·cases e
theorem qG8 {k g n w j off:Nat}(ho:(SV.elt k g n w j off).ok h)(e:qYZ h (.elt k g n w j off)=true):live? k (n*w) (qC h.l)=true:=by
 simp only[qYZ] at e;split at e
 ·rename_i el gr g' w' t xs hk;rw[zN8] at e;have hg:g=g':=zN9 e.1;have hw:w=t.w:=zN9 e.2;subst hg hw;simp only[SV.ok] at ho;unfold live?;rw[zL hk];show Nat.beq (n*t.w) (SO.list el gr g w' t xs).enc.cs.length=true;rw[qU,ho.2 _ _ _ _ _ hk];exact aC _
 ·cases e
def q6X (h:SH)(x:SV)(T:zEP R):zEP R:=match x with
 | .ref k _ w=>(match slk k h.l with
   | some (.spc _ (.arr _ _ xs))=>.ite (Nat.beq w (List.length xs)) T .fail
   | some (.cells _ _ l)=>cond (Nat.beq w l.length) T .fail
   | _=>.fail)
 | x=>cond (qYZ h x) T .fail
theorem q05 {x:SV}{T:zEP R}(e:(q6X h x T).run=some r):T.run=some r∧(∀ k o w,x=.ref k o w->live? k w (qC h.l)=true)∧(∀ k g n w j o,x=.elt k g n w j o->qYZ h x=true):=by
 unfold q6X at e;split at e
 ·rename_i k o w;split at e
  ·rename_i w' el ik xs hk
   rcases run_ite e with ⟨z,e1⟩ | ⟨_,e1⟩
   ·refine⟨e1,fun k' o' w2 h=>?_,fun _ _ _ _ _ _ h=>by cases h⟩;cases h;unfold live?;rw[zL hk];show Nat.beq w (xs.map fun x=>fvv (.int ik x)).length=true;rw[zOK];exact z
   ·cases e1
  ·rename_i el w' l hk;obtain⟨z,e1⟩:=qE e;refine⟨e1,fun k' o' w2 h=>?_,fun _ _ _ _ _ _ h=>by cases h⟩;cases h;exact qFZ (off:=o) (by simp only[qYZ,hk];exact z)
  ·cases e
 ·rename_i hne;obtain⟨z,e1⟩:=qE e;exact⟨e1,fun k o w h=>absurd h (hne k o w),fun _ _ _ _ _ _ _=>z⟩
def qM0 (n:Nat):SV->SV
 | .ref k off w=>.ref k (off+n) w
 | .elt k g m w j off=>.elt k g m w j (off+n)
 | .lp t xs j off=>.lp t xs j (off+n)
 | v=>v
def zD4:SV->Bool
 | .ref _ _ _=>true
 | .elt _ _ _ _ _ _=>true
 | .lp _ _ _ _=>true
 | _=>false
omit [Yl] in
theorem qXR {n:Nat}{v:SV}(hv:v.ok h):(qM0 n v).ok h:=by
 cases v <;> simp only[qM0,SV.ok] at hv ⊢ <;> exact hv
def rW (P:Program)(t:TypeId)(x:SV)(i:Nat)(h:SH):Option SV:=match q8Y P t i with
 | some (off,ft)=>(match szT P ft with
   | some (_+1)=>cond (qYZ h x) (some (qM0 off x)) none
   | _=>none)
 | none=>none
theorem qFW {t:TypeId}{x v:SV}{i:Nat}(hx:x.ok h)(e:rW P t x i h=some v):zX P t x.enc i (qC h.l)=some v.enc∧v.ok h:=by
 unfold rW at e;unfold zX;split at e
 ·rename_i off ft hf;split at e
  ·rename_i s hs
   cases hl:qYZ h x with
   | false=>rw[hl] at e;cases e
   | true =>
     rw[hl] at e;cases e;refine⟨?_,qXR hx⟩;simp only[hf,hs]
     cases x with
     | ref k o w=>simp only[SV.enc,qM0,qFZ hl,cond_true]
     | elt k g n w j o=>simp only[SV.enc,qM0,qG8 hx hl,cond_true,zQA]
     | lp t xs j o=>simp only[SV.enc,qM0,zQA]
     | _=>cases hl
  ·cases e
 ·cases e
def zC5 (n:Nat)(ix:SV)(K:Nat->zEP R):zEP R:=match ix with
 | .c (.int _ i)=>(match idx n i with
   | some j=>K j
   | none=>.fail)
 | v=>(match asI v with
   | some (_,i)=>.bind (idx n i) K
   | none=>.fail)
theorem q5S {n:Nat}{ix:SV}{K:Nat->zEP R}(e:(zC5 n ix K).run=some r):∃ k i j,ix.enc=fvv (.int k i)∧idx n i=some j∧(K j).run=some r:=by
 unfold zC5 at e;split at e
 ·rename_i k i;split at e
  ·rename_i j hj;exact⟨k,i,j,by simp[SV.enc],hj,e⟩
  ·cases e
 ·split at e
  ·rename_i k i hi;obtain⟨j,hj,e⟩:=run_bind e;exact⟨k,i,j,yB hi,hj,e⟩
  ·cases e
def q5J (n:Nat)(ix:SV)(K K2:Nat->zEP R):zEP R:=match ix with
 | .c (.int _ i)=>(match idx n i with
   | some j=>K j
   | none=>.fail)
 | v=>(match asI v with
   | some (_,i)=>.bind (idx n i) K2
   | none=>.fail)
theorem q0W {n:Nat}{ix:SV}{K K2:Nat->zEP R}(e:(q5J n ix K K2).run=some r):∃ k i j,ix.enc=fvv (.int k i)∧idx n i=some j∧((K j).run=some r∨(K2 j).run=some r):=by
 unfold q5J at e;split at e
 ·rename_i k i;split at e
  ·rename_i j hj;exact⟨k,i,j,by simp[SV.enc],hj,.inl e⟩
  ·cases e
 ·split at e
  ·rename_i k i hi;obtain⟨j,hj,e⟩:=run_bind e;exact⟨k,i,j,yB hi,hj,.inr e⟩
  ·cases e
def zBA (n:Nat):SV->SV
 | .ref k off w=>.rfx k (off+n) w
 | .elt k g m w j off=>.etx k g m w j (off+n)
 | v=>qM0 n v
omit [Yl] in
theorem q7H {n:Nat}{v:SV}(hv:v.ok h):(zBA n v).ok h:=by
 cases v <;> simp only[zBA,qM0,SV.ok] at hv ⊢ <;> exact hv
theorem q2H {n:Nat}{v:SV}(hv:zD4 v=true):(zBA n v).enc=(qM0 n v).enc:=by
 cases v <;> first | rfl | (simp only[zBA,qM0,SV.enc])
def rD (P:Program)(t:TypeId)(x ix:SV)(h:SH)(K:SV->zEP R):zEP R:=match x with
 | .d (.list el u) xs=>(match asI ix,zP P t with
   | some (_,i),some el'=>(match szT P el' with
     | some s=>cond (Nat.beq s u.w) (.bind (idx (List.length xs) i) fun j=>K (.lp u xs j 0)) .fail
     | none=>.fail)
   | _,_=>.fail)
 | .own k g n=>(match asI ix,zP P t,slk k h.l with
   | some (_,i),some el',some (.list el _ g' _ u _)=>cond (Nat.beq el' el&&Nat.beq g g') (.bind (idx n i) fun j=>K (.elt k g n u.w j 0)) .fail
   | some (_,i),some el',some (.cells el _ cs)=>(match szT P el with
     | some s=>cond (Nat.beq el' el&&Nat.beq (n*s) cs.length) (.bind (idx n i) fun j=>K (.ref k (j*s) cs.length)) .fail
     | none=>.fail)
   | _,_,_=>.fail)
 | .sl k g n o m=>(match asI ix,zP P t,slk k h.l with
   | some (_,i),some el',some (.list el _ g' _ u _)=>cond (Nat.beq el' el&&Nat.beq g g') (.bind (idx m i) fun j=>K (.elt k g n u.w (o+j) 0)) .fail
   | _,_,_=>.fail)
 | x=>(match qP1 P t with
   | some (n,el)=>(match szT P el with
     | some s=>cond (zD4 x) (q6X h x (q5J n ix (fun j=>K (qM0 (j*s) x)) fun j=>K (zBA (j*s) x))) .fail
     | none=>.fail)
   | none=>.fail)
theorem qGZ {t:TypeId}{x ix:SV}{K:SV->zEP R}(ho:OkH P h)(hx:x.ok h)(e:(rD P t x ix h K).run=some r):∃ v,zB P t x.enc ix.enc (qC h.l)=some v.enc∧v.ok h∧(K v).run=some r:=by
 unfold rD at e;split at e
 ·rename_i el u xs;split at e
  ·rename_i k i el' hi hel;split at e
   ·rename_i s hs;obtain⟨h1,e1⟩:=qE e;obtain⟨j,hj,e2⟩:=run_bind e1;have hw:s=u.w:=zN9 h1;subst hw;refine⟨_,?_,by simp[SV.ok],e2⟩;rw[yB hi];simp only[SV.enc,Ty.fv,fvv,zB,hel,hs,hj,zQU]
   ·cases e
  ·cases e
 ·rename_i k g n;split at e
  ·rename_i ki i el' el gr g' w u xs hi hel hk;obtain⟨h1,e1⟩:=qE e;obtain⟨j,hj,e2⟩:=run_bind e1;rw[zN8] at h1;have hg:g=g':=zN9 h1.2;subst hg;simp only[SV.ok] at hx;have hn:=hx.2 _ _ _ _ _ hk;have hl:=ho.list _ _ _ _ _ _ _ hk;refine⟨_,?_,by simp only[SV.ok];exact hx,e2⟩;rw[yB hi];simp only[SV.enc,fvv,zB,hel,zL hk]
   show (match szT P el with
    | some s=>(match idx n i with
      | some j=>cond (Nat.beq el' el&&Nat.beq (n*s) (SO.list el gr g w u xs).enc.cs.length) (some (PV.ref k (SO.list el gr g w u xs).enc.cs.length ((0+j)*s))) none
      | none=>none)
    | none=>none)=_
   rw[hl.2.1,hj];simp only[qU,hn,aC,h1.1,zO5,cond_true,zOV,zQU]
  ·rename_i ki i el' el w cs hi hel hk;split at e
   ·rename_i s hs;obtain⟨h1,e1⟩:=qE e;obtain⟨j,hj,e2⟩:=run_bind e1;refine⟨_,?_,by simp[SV.ok],e2⟩;rw[yB hi];simp only[SV.enc,fvv,zB,hel,zL hk]
    show (match szT P el with
     | some s=>(match idx n i with
       | some j=>cond (Nat.beq el' el&&Nat.beq (n*s) (qB cs).length) (some (PV.ref k (qB cs).length ((0+j)*s))) none
       | none=>none)
     | none=>none)=_
    rw[hs,hj];simp only[qQ,h1,cond_true,zOV]
   ·cases e
  ·cases e
 ·rename_i k g n o m;split at e
  ·rename_i ki i el' el gr g' w u xs hi hel hk;obtain⟨h1,e1⟩:=qE e;obtain⟨j,hj,e2⟩:=run_bind e1;rw[zN8] at h1;have hg:g=g':=zN9 h1.2;subst hg;simp only[SV.ok] at hx;have hn:=hx.1.2 _ _ _ _ _ hk;have hl:=ho.list _ _ _ _ _ _ _ hk;refine⟨_,?_,by simp only[SV.ok];exact hx.1,e2⟩;rw[yB hi];simp only[SV.enc,fvv,zB,hel,zL hk]
   show (match szT P el with
    | some s=>(match idx m i with
      | some j=>cond (Nat.beq el' el&&Nat.beq (n*s) (SO.list el gr g w u xs).enc.cs.length) (some (PV.ref k (SO.list el gr g w u xs).enc.cs.length ((o+j)*s))) none
      | none=>none)
    | none=>none)=_
   rw[hl.2.1];simp only[hj,qU,hn,aC,h1.1,zO5,cond_true,zQU]
  ·cases e
 ·split at e
  ·rename_i n el ha;split at e
   ·rename_i s hs;obtain⟨h1,e⟩:=qE e;obtain⟨e,h2,h3⟩:=q05 e;obtain⟨ki,i,j,hi,hj,e⟩:=q0W e
    obtain⟨v,hv1,hv2,e⟩:∃ v:SV,v.enc=(qM0 (j*s) x).enc∧v.ok h∧(K v).run=some r:=by
     rcases e with e | e
     ·exact⟨_,rfl,qXR hx,e⟩
     ·exact⟨_,q2H h1,q7H hx,e⟩
    refine⟨_,?_,hv2,e⟩;rw[hi,hv1]
    cases x with
    | ref k o w=>simp only[SV.enc,qM0,fvv,zB,ha,hs,hj,h2 _ _ _ rfl,cond_true]
    | elt k g n w j o=>simp only[SV.enc,qM0,fvv,zB,ha,hs,hj,qG8 hx (h3 _ _ _ _ _ _ rfl),cond_true,zQA]
    | lp t xs j o=>simp only[SV.enc,qM0,fvv,zB,ha,hs,hj,zQA]
    | _=>cases h1
   ·cases e
  ·cases e
def qT7 (P:Program)(t:TypeId)(x ix:SV)(K:SV->zEP R):zEP R:=match qP1 P t,x with
 | some (n,el),.agg l=>(match szT P el with
   | some s=>zC5 n ix fun j=>match qGX P el l (j*s) with
     | some v=>K v
     | none=>.fail
   | none=>.fail)
 | _,_=>.fail
theorem qXJ {t:TypeId}{x ix:SV}{K:SV->zEP R}(hx:x.ok h)(e:(qT7 P t x ix K).run=some r):∃ v,qEL P t x.enc ix.enc=some v.enc∧v.ok h∧(K v).run=some r∧∃ l,x=.agg l:=by
 unfold qT7 at e;split at e
 ·rename_i n el l ha;split at e
  ·rename_i s hs;obtain⟨ki,i,j,hi,hj,e⟩:=q5S e;split at e
   ·rename_i v hv;obtain⟨h1,h2⟩:=qHH (h:=h) hv;simp only[SV.ok] at hx;refine⟨v,?_,h2 hx,e,l,rfl⟩;rw[hi];simp only[qEL,ha,SV.enc,fvv,hs,hj];exact h1
   ·cases e
  ·cases e
 ·cases e
def qHA (v:SV)(i:Nat):Option SV:=match v with
 | .tup l=>(match zH l i with
   | some x=>cond (pnt x.enc) (some x) none
   | none=>none)
 | _=>none
theorem qL0 {x v:SV}{i:Nat}(hx:x.ok h)(e:qHA x i=some v):dG x.enc i=some v.enc∧v.ok h:=by
 unfold qHA at e;split at e
 ·rename_i l;split at e
  ·rename_i y hy
   cases hp:pnt y.enc with
   | false=>rw[hp] at e;cases e
   | true =>
     rw[hp] at e;cases e;simp only[SV.ok] at hx;refine⟨?_,nA hx hy⟩;simp only[dG,SV.enc,qV,hy,zOM,hp,cond_true]
  ·cases e
 ·cases e
def qA1 (fn:Fn)(first cap:List SV):Option SV:=match fn with
 | .func g=>some (match first,cap with
   | [],[]=>.c (.func (.func g) #[] #[])
   | _,_=>.fn g first cap)
 | _=>none
theorem qIV {fn:Fn}{first cap:List SV}{v:SV}(h1:okL h first)(h2:okL h cap)(e:qA1 fn first cap=some v):vO fn (qB first) (qB cap)=some v.enc∧v.ok h:=by
 unfold qA1 at e;split at e
 ·rename_i g;cases e
  cases first with
  | nil=>cases cap with
    | nil=>exact⟨by simp[vO,qB,SV.enc],by simp[SV.ok]⟩
    | cons x l=>exact⟨by simp[vO,qB,SV.enc],by simp only[SV.ok];exact⟨h1,h2⟩⟩
  | cons y l=>exact⟨by simp[vO,qB,SV.enc],by simp only[SV.ok];exact⟨h1,h2⟩⟩
 ·cases e
def qB1 (v:SV)(h:SH):Option SV:=match v with
 | .fn _ _ _=>some v
 | .c (.func (.func _) _ _)=>some v
 | v=>cond (qYZ h v) (some v) none
theorem qLI {x v:SV}(hx:x.ok h)(e:qB1 x h=some v):yM x.enc (qC h.l)=some v.enc∧v.ok h:=by
 unfold qB1 at e;split at e
 ·cases e;exact⟨by simp[yM,SV.enc],hx⟩
 ·cases e;exact⟨by simp[yM,SV.enc,fvv],hx⟩
 ·cases hl:qYZ h x with
  | false=>rw[hl] at e;cases e
  | true =>
    rw[hl] at e;cases e;refine⟨?_,hx⟩
    cases x with
    | ref k o w=>simp only[SV.enc,yM,qFZ hl,cond_true]
    | elt k g n w j o=>simp only[SV.enc,yM,qG8 hx hl,cond_true]
    | lp t xs j o=>simp only[SV.enc,yM]
    | _=>cases hl
end
end Go.Sv
namespace Go.Sv
open Go.Idl
variable {el:TypeId}{k:Nat}{t:Ty}{x:SV}
noncomputable section
variable [Gc]
variable [Yl]
variable {P:Program}{h:SH}{R:Type}{r:R}
def zCO (P:Program)(ts:Array TypeId)(x:SV)(h:SH):Option SV:=match ts[0]? with
 | some t=>(match zP P t with
   | some _=>(match x with
     | .d (.list _ _) xs=>some (.d (.int .i64) ((List.length xs:Nat):Int))
     | .c (.slice _ n _)=>some (.c (.int .i64 (n:Int)))
     | .own k g n=>(match slk k h.l with
       | some (.list _ _ g' _ _ _)=>cond (Nat.beq g g') (some (.d (.int .i64) (n:Int))) none
       | some (.cells el _ cs)=>(match szT P el with
         | some s=>cond (Nat.beq (n*s) cs.length) (some (.c (.int .i64 (n:Int)))) none
         | none=>none)
       | _=>none)
     | .sl k g _ _ m=>(match slk k h.l with
       | some (.list _ _ g' _ _ _)=>cond (Nat.beq g g') (some (.d (.int .i64) (m:Int))) none
       | _=>none)
     | _=>none)
   | none=>(match qP1 P t with
     | some (n,_)=>some (.c (.int .i64 (n:Int)))
     | none=>none))
 | none=>none
theorem q79 {ts:Array TypeId}{v:SV}(ho:OkH P h)(hx:x.ok h)(e:zCO P ts x h=some v):q19 P ts x.enc (qC h.l)=some v.enc∧v.ok h:=by
 unfold zCO at e;unfold q19;split at e
 ·rename_i t ht;split at e
  ·rename_i el hel;split at e
   ·rename_i el' u xs;cases e;simp[ht,hel,SV.enc,Ty.fv,fvv,SV.ok]
   ·rename_i a n c;cases e;simp[ht,hel,SV.enc,fvv,SV.ok]
   ·rename_i k g n;split at e
    ·rename_i el' gr g' w u xs hk
     obtain⟨h1,e1⟩:Nat.beq g g'=true∧some (SV.d (.int .i64) (n:Int))=some v:=by
      cases hb:Nat.beq g g' with
      | false=>rw[hb] at e;cases e
      | true=>rw[hb] at e;exact⟨rfl,e⟩
     cases e1;have hg:g=g':=zN9 h1;subst hg;simp only[SV.ok] at hx;have hn:=hx.2 _ _ _ _ _ hk;have hl:=ho.list _ _ _ _ _ _ _ hk;refine⟨?_,by simp[SV.ok]⟩;simp only[ht,hel,SV.enc,zL hk]
     show (match szT P el' with
      | some s=>cond (Nat.beq (n*s) (SO.list el' gr g w u xs).enc.cs.length) (some (fvv (.int .i64 (n:Int)))) none
      | none=>none)=_
     rw[hl.2.1];simp only[qU,hn,aC,cond_true,Ty.fv,fvv]
    ·rename_i el' w cs hk;split at e
     ·rename_i s hs
      cases hb:Nat.beq (n*s) cs.length with
      | false=>rw[hb] at e;cases e
      | true =>
        rw[hb] at e;cases e;refine⟨?_,by simp[SV.ok]⟩;simp only[ht,hel,SV.enc,zL hk]
        show (match szT P el' with
         | some s=>cond (Nat.beq (n*s) (qB cs).length) (some (fvv (.int .i64 (n:Int)))) none
         | none=>none)=_
        rw[hs];simp only[qQ,hb,cond_true]
     ·cases e
    ·cases e
   ·rename_i k g n o m;split at e
    ·rename_i el' gr g' w u xs hk
     obtain⟨h1,e1⟩:Nat.beq g g'=true∧some (SV.d (.int .i64) (m:Int))=some v:=by
      cases hb:Nat.beq g g' with
      | false=>rw[hb] at e;cases e
      | true=>rw[hb] at e;exact⟨rfl,e⟩
     cases e1;have hg:g=g':=zN9 h1;subst hg;simp only[SV.ok] at hx;have hn:=hx.1.2 _ _ _ _ _ hk;have hl:=ho.list _ _ _ _ _ _ _ hk;refine⟨?_,by simp[SV.ok]⟩;simp only[ht,hel,SV.enc,zL hk]
     show (match szT P el' with
      | some s=>cond (Nat.beq (n*s) (SO.list el' gr g w u xs).enc.cs.length) (some (fvv (.int .i64 (m:Int)))) none
      | none=>none)=_
     rw[hl.2.1];simp only[qU,hn,aC,cond_true,Ty.fv,fvv]
    ·cases e
   ·cases e
  ·rename_i hel;split at e
   ·rename_i n el ha;cases e;simp[ht,hel,ha,SV.enc,SV.ok]
   ·cases e
 ·cases e
def qDY (u t:Ty)(xs:List u.sem):Option (List t.sem):=if e:u=t then some (e ▸ xs) else none
omit [Yl] in
theorem uJ {u:Ty}{xs:List u.sem}{ys:List t.sem}(e:qDY u t xs=some ys):(⟨u,xs⟩:(t:Ty)×List t.sem)=⟨t,ys⟩:=by
 unfold qDY at e;split at e
 ·rename_i h;subst h;cases e;rfl
 ·cases e
def qTM (t:Ty)(x:SV)(h:SH):Option (List t.sem):=match x with
 | .d (.list _ u) xs=>qDY u t xs
 | .c (.slice none 0 _)=>some []
 | .own k g _=>(match slk k h.l with
   | some (.list _ _ g' _ u xs)=>cond (Nat.beq g g') (qDY u t xs) none
   | _=>none)
 | .sl k g _ o m=>(match slk k h.l with
   | some (.list _ _ g' _ u xs)=>cond (Nat.beq g g') (match qDY u t xs with
     | some xs=>some ((xs.drop o).take m)
     | none=>none) none
   | _=>none)
 | _=>none
theorem qGK {ys:List t.sem}(ho:OkH P h)(hx:x.ok h)(e:qTM t x h=some ys):nE P t.w x.enc (qC h.l)=some (ys.length,(ys.flatMap t.cells).map .f):=by
 unfold qTM at e;unfold nE;split at e
 ·rename_i el u xs;cases uJ e;simp only[SV.enc,Ty.fv,zV,aC,cond_true]
 ·cases e;simp[SV.enc,fvv]
 ·rename_i k g n;split at e
  ·rename_i el gr g' w u xs hk
   cases hb:Nat.beq g g' with
   | false=>rw[hb] at e;cases e
   | true =>
     rw[hb] at e;have hg:g=g':=zN9 hb;subst hg;cases uJ e;simp only[SV.ok] at hx;have hn:=hx.2 _ _ _ _ _ hk;have hl:=ho.list _ _ _ _ _ _ _ hk;simp only[SV.enc,zL hk]
     show (match szT P el with
      | some s'=>cond (Nat.beq (n*s') (SO.list el gr g w t ys).enc.cs.length&&Nat.beq t.w s') (some (n,(((ys.flatMap t.cells).map PV.f).drop (0*t.w)).take (n*t.w))) none
      | none=>none)=_
     rw[hl.2.1];simp only[qU,hn,aC,zO5,cond_true,zR0,zPU];rw[zO2 (by rw[zOK,zV];exact zOA _)]
  ·cases e
 ·rename_i k g n o m;split at e
  ·rename_i el gr g' w u xs hk
   cases hb:Nat.beq g g' with
   | false=>rw[hb] at e;cases e
   | true =>
     rw[hb] at e;have hg:g=g':=zN9 hb;subst hg;simp only[cond_true] at e;split at e
     case h_2=>cases e
     rename_i xs2 zMK;cases e;cases uJ zMK;simp only[SV.ok] at hx;have hn:=hx.1.2 _ _ _ _ _ hk;have hl:=ho.list _ _ _ _ _ _ _ hk;simp only[SV.enc,zL hk]
     show (match szT P el with
      | some s'=>cond (Nat.beq (n*s') (SO.list el gr g w t xs2).enc.cs.length&&Nat.beq t.w s') (some (m,(((xs2.flatMap t.cells).map PV.f).drop (o*t.w)).take (m*t.w))) none
      | none=>none)=_
     rw[hl.2.1];simp only[qU,hn,aC,zO5,cond_true];rw[<-zQN,<-zQI,gU,gK]
     congr 1
     have:=hx.2;rw[zPX,zQ0,zP2 (by omega)]
  ·cases e
 ·cases e
omit [Yl] in
theorem qCY (ys:List t.sem):((ys.flatMap t.cells).map PV.f).all aN=true:=by
 rw[zOB];intro x hx;obtain⟨y,_,rfl⟩:=zOZ.1 hx;rfl
omit [Yl] in
theorem qF4 {h0:SH}{gr:Bool}{n m:Nat}{ty:Ty}{xs ys:List ty.sem}(hn:n=xs.length)(hm:m=ys.length):(SV.own k h0.next (n+m)).ok (h0.new k fun v=>.list el gr v v ty (xs++ys)) :=
 wV (by rw[zOW,hn,hm])
def qGG (P:Program)(ts:List TypeId)(base x:SV)(k:Nat)(h:SH)(K:SV->SH->zEP R):zEP R:=match ts with
 | [st,xt]=>(match zP P st,zP P xt with
   | some el,some _=>(match szT P el,qBA P 8 el with
     | some (s+1),some t=>cond (Nat.beq t.w (s+1)&&jA P el) (match qTM t x h with
       | some ys=>(match base with
         | .c (.slice none 0 0)=>.ite (Nat.beq ys.length 0) (K base h)
            (.ite (Nat.ble (0+ys.length) 1048576) (K (.own k h.next (0+ys.length)) (h.new k fun v=>.list el true v v t ([]++ys))) .fail)
         | .own j g n=>(match slk j h.l with
           | some (.list el' gr g' _ u xs)=>cond (Nat.beq el' el&&Nat.beq g g') (match qDY u t xs with
             | some xs=>.ite (Nat.beq ys.length 0) (K base h)
                (.ite (Nat.ble (n+ys.length) 1048576) (cond gr (K (.own j h.next (n+ys.length)) ((h.del j).new j fun v=>.list el true v v t (xs++ys))) (K (.own k h.next (n+ys.length)) (h.new k fun v=>.list el true v v t (xs++ys)))) .fail)
             | none=>.fail) .fail
           | _=>.fail)
         | _=>.fail)
       | none=>.fail) .fail
     | _,_=>.fail)
   | _,_=>.fail)
 | _=>.fail
omit [Yl] in
theorem qFR {xs ys:List t.sem}{ph:PHp}(h1:Nat.ble (xs.length+ys.length) 1048576=true)(h2:jA P el=true) :
 nQ P el t.w ((xs.flatMap t.cells).map .f) xs.length ((ys.flatMap t.cells).map .f) ys.length k ph=some (.own k (xs.length+ys.length) 0 (xs.length+ys.length),(k,⟨el,true,((xs++ys).flatMap t.cells).map .f⟩)::ph):=by
 unfold nQ;rw[h1,h2,zOK,zV,zOK,zV,qCY];simp only[aC,zO5,cond_true,qDH];rw[zRG,zPQ]
theorem qFJ {ts:List TypeId}{base:SV}{K:SV->SH->zEP R}(ho:OkH P h)(hb:base.ok h)(hx:x.ok h)(e:(qGG P ts base x k h K).run=some r) :
 ∃ v h',zU P ts base.enc x.enc k (qC h.l)=some (v.enc,qC h'.l)∧Post P h h' v∧(K v h').run=some r:=by
 unfold qGG at e;split at e
 ·rename_i st xt;split at e
  ·rename_i el el2 hel zGQ;split at e
   ·rename_i s t hs hty;have e_:=qE e;clear e;obtain⟨c1,e⟩:=e_;rw[zN8] at c1;have hw:s+1=t.w:=(zN9 c1.1).symm;split at e
    ·rename_i ys hys;have hnw:=qGK ho hx hys;split at e
     ·have e_:=run_ite e;clear e
      rcases e_ with ⟨z,e⟩ | ⟨z,e⟩
      ·refine⟨_,_,?_,⟨.refl _,ho,hb⟩,e⟩;simp only[zU,hel,zGQ,hs,SV.enc,fvv];rw[hw,hnw];simp only[z,cond_true]
      ·have e_:=run_ite e;clear e
       rcases e_ with ⟨z2,e⟩ | ⟨z2,e⟩
       ·have hn:=xI (k:=k) (f:=fun v=>.list el true v v t ([]++ys)) ho ⟨rfl,rfl,by rw[hs];exact congrArg some hw,by omega⟩;refine⟨_,_,?_,⟨hn.1,hn.2,qF4 (xs:=[]) rfl rfl⟩,e⟩;simp only[zU,hel,zGQ,hs,SV.enc,fvv];rw[hw,hnw];simp only[z,cond_false];exact qFR (xs:=[]) z2 c1.2
       ·cases e
     ·rename_i j g n;split at e
      ·rename_i el' gr g' w u xs0 hk;have e_:=qE e;clear e;obtain⟨c2,e⟩:=e_;rw[zN8] at c2;have he:el'=el:=zN9 c2.1;have hg:g=g':=zN9 c2.2;split at e
       ·rename_i xs hxs;have hcast:=uJ hxs
        have hk2:slk j h.l=some (.list el gr g w t xs):=by
         rw[hk,he,<-hg];cases hcast;rfl
        have hnl:n=xs.length:=by
         simp only[SV.ok] at hb;exact hb.2 _ _ _ _ _ hk2
        have pre:∀ z:PV×PHp,(cond (Nat.beq ys.length 0) (some (PV.own j n 0 n,qC h.l))
         (cond (Nat.ble (n+ys.length) n) (cond (Nat.beq ((ys.flatMap t.cells).map PV.f).length (ys.length*(s+1))&&((ys.flatMap t.cells).map PV.f).all aN) (some (PV.own j n 0 (n+ys.length),xQ j { (SO.list el gr g w t xs).enc with cs:=yG (SO.list el gr g w t xs).enc.cs (n*(s+1)) ((ys.flatMap t.cells).map PV.f) } (qC h.l))) none)
           (cond gr (nQ P el (s+1) (SO.list el gr g w t xs).enc.cs n ((ys.flatMap t.cells).map PV.f) ys.length j (nS j (qC h.l))) (nQ P el (s+1) (SO.list el gr g w t xs).enc.cs n ((ys.flatMap t.cells).map PV.f) ys.length k (qC h.l)))))=some z ->
         zU P [st,xt] (SV.own j g n).enc x.enc k (qC h.l)=some z:=fun z hz=>by
         simp only[zU,hel,zGQ,hs,SV.enc];rw[show nE P (s+1) x.enc (qC h.l)=_ from (hw ▸ hnw)];simp only[zL hk2];rw[show (SO.list el gr g w t xs).enc.el=el from rfl,show Nat.beq (n*(s+1)) (SO.list el gr g w t xs).enc.cs.length=true by rw[qU,hw,hnl];exact aC _];simp only[aC,zO5,cond_true];exact hz
        have e_:=run_ite e;clear e
        rcases e_ with ⟨z,e⟩ | ⟨z,e⟩
        ·refine⟨_,_,pre _ ?_,⟨.refl _,ho,hb⟩,e⟩;rw[z];simp[SV.enc]
        ·have e_:=run_ite e;clear e
         rcases e_ with ⟨z2,e⟩ | ⟨z2,e⟩
         ·have hpos:Nat.ble (n+ys.length) n=false:=by
           cases hq:Nat.ble (n+ys.length) n with
           | false=>rfl
           | true =>
             have h0:=zOH hq;have:ys.length=0:=by omega
             rw[this] at z;cases z
          cases hgr:gr with
          | true =>
            rw[hgr] at e;have hd:=fU (k:=j) ho;have hn:=xI (h:=h.del j) (k:=j) (f:=fun v=>.list el true v v t (xs++ys)) hd.2 ⟨rfl,rfl,by rw[hs];exact congrArg some hw,by omega⟩;refine⟨_,_,pre _ ?_,⟨hd.1.trans hn.1,hn.2,qF4 (h0:=h.del j) hnl rfl⟩,e⟩;rw[z,hpos,hgr];simp only[cond_true,cond_false];rw[hw,hnl];rw[hnl] at z2;rw[show (SO.list el true g w t xs).enc.cs=(xs.flatMap t.cells).map .f from rfl,qFR z2 c1.2,<-fB];rfl
          | false =>
            rw[hgr] at e;have hn:=xI (h:=h) (k:=k) (f:=fun v=>.list el true v v t (xs++ys)) ho ⟨rfl,rfl,by rw[hs];exact congrArg some hw,by omega⟩;refine⟨_,_,pre _ ?_,⟨hn.1,hn.2,qF4 (h0:=h) hnl rfl⟩,e⟩;rw[z,hpos,hgr];simp only[cond_false];rw[hw,hnl];rw[hnl] at z2;rw[show (SO.list el false g w t xs).enc.cs=(xs.flatMap t.cells).map .f from rfl,qFR z2 c1.2];rfl
         ·cases e
       ·cases e
      ·cases e
     ·cases e
    ·cases e
   ·cases e
  ·cases e
 ·cases e
end
end Go.Sv
namespace Go.Sv
open Go.Idl
variable {base x:SV}{c o:Nat}{ts:List TypeId}
noncomputable section
variable [Gc]
variable [Yl]
variable {P:Program}{h:SH}{R:Type}{r:R}
def pX {α:Type}(xs ys:List α)(o c:Nat):List α:=xs.take o++(ys.take c++xs.drop (o+c))
omit [Yl] in
theorem qRJ {α:Type}{xs ys:List α}(h1:o+c<=xs.length)(h2:c<=ys.length):xs.length=(pX xs ys o c).length:=by
 simp[pX];omega
omit [Yl] in
theorem qIT {t:Ty}{xs ys:List t.sem}(h2:c<=ys.length) :
 yG ((xs.flatMap t.cells).map PV.f) (o*t.w) (((ys.flatMap t.cells).map PV.f).take (c*t.w))=((pX xs ys o c).flatMap t.cells).map PV.f:=by
 have hl:(((ys.flatMap t.cells).map PV.f).take (c*t.w)).length=c*t.w:=by
  rw[zPX,zOK,zV];exact zP2 (zPF _ h2)
 unfold yG;rw[hl,<-zQT,<-zQI,<-zQI,<-zQN,gK,gK,gU];unfold pX;simp[zRG,zO8]
def q47 (P:Program)(ts:List TypeId)(base x:SV)(h:SH)(K:SV->SH->zEP R):zEP R:=match ts with
 | [st,xt]=>(match zP P st,zP P xt with
   | some el,some _=>(match szT P el,qBA P 8 el with
     | some (s+1),some t=>cond (Nat.beq t.w (s+1)) (match qTM t x h with
       | some ys=>(match base with
         | .own j g n=>(match slk j h.l with
           | some (.list el' gr g' _ u xs)=>cond (Nat.beq el' el&&Nat.beq g g') (match qDY u t xs with
             | some xs=>K (.d (.int .i64) ((Nat.min ys.length n:Nat):Int)) (h.put j fun v=>.list el gr g v t (pX xs ys 0 (Nat.min ys.length n)))
             | none=>.fail) .fail
           | _=>.fail)
         | .sl j g n o m=>(match slk j h.l with
           | some (.list el' gr g' _ u xs)=>cond (Nat.beq el' el&&Nat.beq g g') (match qDY u t xs with
             | some xs=>K (.d (.int .i64) ((Nat.min ys.length m:Nat):Int)) (h.put j fun v=>.list el gr g v t (pX xs ys o (Nat.min ys.length m)))
             | none=>.fail) .fail
           | _=>.fail)
         | .d (.list _ _) xs=>.ite (Nat.beq (List.length xs) 0) (K (.d (.int .i64) 0) h) .fail
         | .c (.slice none 0 _)=>K (.d (.int .i64) 0) h
         | _=>.fail)
       | none=>.fail) .fail
     | _,_=>.fail)
   | _,_=>.fail)
 | _=>.fail
theorem q2J {K:SV->SH->zEP R}(ho:OkH P h)(hb:base.ok h)(hx:x.ok h)(e:(q47 P ts base x h K).run=some r) :
 ∃ v h',qF5 P ts base.enc x.enc (qC h.l)=some (v.enc,qC h'.l)∧Post P h h' v∧(K v h').run=some r:=by
 unfold q47 at e;split at e
 ·rename_i st xt;split at e
  ·rename_i el el2 hel zGQ;split at e
   ·rename_i s t hs hty;have e_:=qE e;clear e;obtain⟨c1,e⟩:=e_;have hw:s+1=t.w:=(zN9 c1).symm;split at e
    ·rename_i ys hys;have hnw:nE P (s+1) x.enc (qC h.l)=some (ys.length,(ys.flatMap t.cells).map .f):=hw ▸ qGK ho hx hys;have hlen:((ys.flatMap t.cells).map PV.f).length=ys.length*(s+1):=by rw[zOK,zV,hw]
     have key:∀ {j g n o m w:Nat} {gr:Bool} {xs:List t.sem},slk j h.l=some (.list el gr g w t xs)->n=xs.length->o+m<=n ->
      (K (.d (.int .i64) ((Nat.min ys.length m:Nat):Int)) (h.put j fun v=>.list el gr g v t (pX xs ys o (Nat.min ys.length m)))).run=some r ->
      ∃ v h',qF5 P [st,xt] (.own j n o m) x.enc (qC h.l)=some (v.enc,qC h'.l)∧Post P h h' v∧(K v h').run=some r:=by
      intro j g n o m w gr xs hk hn hom e;have hc:Nat.min ys.length m<=ys.length:=Nat.min_le_left _ _;have hc2:Nat.min ys.length m<=m:=Nat.min_le_right _ _;have hp:=vS (f:=fun v=>.list el gr g v t (pX xs ys o (Nat.min ys.length m))) ho hk ⟨_,rfl,qRJ (by omega) hc⟩;refine⟨_,_,?_,⟨hp.1,hp.2,by simp[SV.ok]⟩,e⟩;simp only[qF5,hel,zGQ,hs,hnw,zL hk];rw[show (SO.list el gr g w t xs).enc.el=el from rfl,show Nat.beq (n*(s+1)) (SO.list el gr g w t xs).enc.cs.length=true by rw[qU,hw,hn];exact aC _,hlen,qCY];simp only[aC,zO5,cond_true];rw[show qC (h.put j fun v=>.list el gr g v t (pX xs ys o (Nat.min ys.length m))).l=xQ j (SO.list el gr g h.next t (pX xs ys o (Nat.min ys.length m))).enc (qC h.l) from xX j _ _];rw[hw];show some (_,xQ j ⟨el,gr,yG ((xs.flatMap t.cells).map PV.f) (o*t.w) _⟩ (qC h.l))=some (_,xQ j ⟨el,gr,((pX xs ys o (Nat.min ys.length m)).flatMap t.cells).map PV.f⟩ (qC h.l));rw[qIT hc];simp[SV.enc,Ty.fv,fvv]
     split at e
     ·rename_i j g n;split at e
      ·rename_i el' gr g' w u xs0 hk;have e_:=qE e;clear e;obtain⟨c2,e⟩:=e_;rw[zN8] at c2;have he:el'=el:=zN9 c2.1;have hg:g=g':=zN9 c2.2;split at e
       ·rename_i xs hxs;have hcast:=uJ hxs
        have hk2:slk j h.l=some (.list el gr g w t xs):=by
         rw[hk,he,<-hg];cases hcast;rfl
        simp only[SV.ok] at hb;exact key hk2 (hb.2 _ _ _ _ _ hk2) (by omega) e
       ·cases e
      ·cases e
     ·rename_i j g n o m;split at e
      ·rename_i el' gr g' w u xs0 hk;have e_:=qE e;clear e;obtain⟨c2,e⟩:=e_;rw[zN8] at c2;have he:el'=el:=zN9 c2.1;have hg:g=g':=zN9 c2.2;split at e
       ·rename_i xs hxs;have hcast:=uJ hxs
        have hk2:slk j h.l=some (.list el gr g w t xs):=by
         rw[hk,he,<-hg];cases hcast;rfl
        simp only[SV.ok] at hb;exact key hk2 (hb.1.2 _ _ _ _ _ hk2) hb.2 e
       ·cases e
      ·cases e
     ·rename_i el' u xs
      rcases run_ite e with ⟨z,e⟩ | ⟨z,e⟩
      ·refine⟨_,_,?_,⟨.refl _,ho,by simp[SV.ok]⟩,e⟩;have hz:xs=[]:=zPI.1 (zN9 z);subst hz;simp[qF5,hel,zGQ,hs,hnw,SV.enc,Ty.fv,fvv]
      ·cases e
     ·refine⟨_,_,?_,⟨.refl _,ho,by simp[SV.ok]⟩,e⟩;simp[qF5,hel,zGQ,hs,hnw,SV.enc,Ty.fv,fvv]
     ·cases e
    ·cases e
   ·cases e
  ·cases e
 ·cases e
def q55 (P:Program)(ts:List TypeId)(base x:SV)(k:Nat)(h:SH)(K:SV->SH->zEP R):zEP R:=match base with
 | .sl j g n o m=>(match ts with
   | [st,xt]=>(match zP P st,zP P xt with
     | some el,some _=>(match szT P el,qBA P 8 el with
       | some (s+1),some t=>cond (Nat.beq t.w (s+1)&&Nat.beq o 0) (match qTM t x h with
         | some ys=>(match slk j h.l with
           | some (.list el' gr g' _ u xs)=>cond (Nat.beq el' el&&Nat.beq g g') (match qDY u t xs with
             | some xs=>.ite (Nat.beq ys.length 0) (K base h)
                (.ite (Nat.ble (m+ys.length) n) (K (.sl j g n 0 (m+ys.length)) (h.put j fun v=>.list el gr g v t (pX xs ys m ys.length)))
                  (.ite (Nat.beq m n) (qGG P ts (.own j g n) x k h K) .fail))
             | none=>.fail) .fail
           | _=>.fail)
         | none=>.fail) .fail
       | _,_=>.fail)
     | _,_=>.fail)
   | _=>.fail)
 | base=>qGG P ts base x k h K
theorem q1W {k:Nat}{K:SV->SH->zEP R}(ho:OkH P h)(hb:base.ok h)(hx:x.ok h)(e:(q55 P ts base x k h K).run=some r) :
 ∃ v h',zU P ts base.enc x.enc k (qC h.l)=some (v.enc,qC h'.l)∧Post P h h' v∧(K v h').run=some r:=by
 unfold q55 at e;split at e
 case h_2=>exact qFJ ho hb hx e
 rename_i j g n o m;split at e
 case h_2=>cases e
 rename_i st xt;split at e
 case h_2=>cases e
 rename_i el el2 hel zGQ;split at e
 case h_2=>cases e
 rename_i s t hs hty;obtain⟨c1,e1⟩:=qE e;rw[zN8] at c1;have hw:s+1=t.w:=(zN9 c1.1).symm;have h0:o=0:=zN9 c1.2;subst h0;split at e1
 case h_2=>cases e1
 rename_i ys hys;have hnw:nE P (s+1) x.enc (qC h.l)=some (ys.length,(ys.flatMap t.cells).map .f):=hw ▸ qGK ho hx hys;split at e1
 case h_2=>cases e1
 rename_i el' gr g' w u xs0 hk;obtain⟨c2,e2⟩:=qE e1;rw[zN8] at c2;have he:el'=el:=zN9 c2.1;have hg:g=g':=zN9 c2.2;split at e2
 case h_2=>cases e2
 rename_i xs hxs;have hcast:=uJ hxs
 have hk2:slk j h.l=some (.list el gr g w t xs):=by
  rw[hk,he,<-hg];cases hcast;rfl
 simp only[SV.ok] at hb;have hnl:n=xs.length:=hb.1.2 _ _ _ _ _ hk2;have hlen:((ys.flatMap t.cells).map PV.f).length=ys.length*(s+1):=by rw[zOK,zV,hw]
 rcases run_ite e2 with ⟨z,e3⟩ | ⟨z,e3⟩
 ·refine⟨_,_,?_,⟨.refl _,ho,by simp only[SV.ok];exact hb⟩,e3⟩;simp only[zU,hel,zGQ,hs,SV.enc,hnw,zL hk2];rw[show (SO.list el gr g w t xs).enc.el=el from rfl,show Nat.beq (n*(s+1)) (SO.list el gr g w t xs).enc.cs.length=true by rw[qU,hw,hnl];exact aC _];simp only[aC,zO5,cond_true,z]
 ·rcases run_ite e3 with ⟨z2,e4⟩ | ⟨z2,e4⟩
  ·have hle:=zOH z2;have hp:=vS (f:=fun v=>.list el gr g v t (pX xs ys m ys.length)) ho hk2 ⟨_,rfl,qRJ (by omega) (zOA _)⟩;refine⟨_,_,?_,⟨hp.1,hp.2,?_⟩,e4⟩
   ·simp only[zU,hel,zGQ,hs,SV.enc,hnw,zL hk2];rw[show (SO.list el gr g w t xs).enc.el=el from rfl,show Nat.beq (n*(s+1)) (SO.list el gr g w t xs).enc.cs.length=true by rw[qU,hw,hnl];exact aC _,hlen,qCY];simp only[aC,zO5,cond_true,z,z2,cond_false];rw[show qC (h.put j fun v=>.list el gr g v t (pX xs ys m ys.length)).l=xQ j (SO.list el gr g h.next t (pX xs ys m ys.length)).enc (qC h.l) from xX j _ _];rw[hw];show some (_,xQ j ⟨el,gr,yG ((xs.flatMap t.cells).map PV.f) (m*t.w) _⟩ (qC h.l))=some (_,xQ j ⟨el,gr,((pX xs ys m ys.length).flatMap t.cells).map PV.f⟩ (qC h.l));rw[<-qIT (zOA _),zO2 (by rw[zOK,zV];exact zOA _)]
   ·simp only[SV.ok];exact⟨hb.1.keep hp.1,by omega⟩
  ·rcases run_ite e4 with ⟨z3,e5⟩ | ⟨_,e5⟩
   ·have hmn:m=n:=zN9 z3;subst hmn;have:=qFJ (base:=.own j g m) ho (by simp only[SV.ok];exact hb.1) hx e5;simpa only[SV.enc] using this
   ·cases e5
def q4F (most:Nat)(i:Int):Option Nat:=if 0<=i∧i<=(most:Int) then some i.toNat else none
def qP5 (d most:Nat)(x:Option SV)(K:Nat->zEP R):zEP R:=match x with
 | none=>K d
 | some v=>(match asI v with
   | some (_,i)=>.bind (q4F most i) K
   | none=>.fail)
theorem vW {d most:Nat}{x:Option SV}{K:Nat->zEP R}(e:(qP5 d most x K).run=some r):∃ n,bnd d most (x.map SV.enc)=some n∧(n=d∨n<=most)∧(K n).run=some r:=by
 unfold qP5 at e;split at e
 ·exact⟨d,rfl,.inl rfl,e⟩
 ·rename_i v;split at e
  ·rename_i k i hi;have e_:=run_bind e;clear e;obtain⟨n,hn,e⟩:=e_;refine⟨n,?_,.inr ?_,e⟩
   ·simp only[zOM,yB hi,fvv,bnd];exact hn
   ·unfold q4F at hn;split at hn
    ·cases hn;omega
    ·cases hn
  ·cases e
def qYD (P:Program)(t:TypeId)(x:SV)(lo hi:Option SV)(h:SH)(K:SV->zEP R):zEP R:=match x with
 | .d (.list el u) xs=>(match zP P t,szT P el with
   | some el',some s=>cond (Nat.beq el' el&&Nat.beq s u.w) (qP5 (List.length xs) (List.length xs) hi fun b=>qP5 0 b lo fun a=>K (.d (.list el u) ((List.drop a xs).take (b - a)))) .fail
   | _,_=>.fail)
 | .c (.slice none 0 0)=>(match zP P t with
   | some el=>cond (szT P el).isSome (qP5 0 0 hi fun _=>qP5 0 0 lo fun _=>K x) .fail
   | none=>.fail)
 | .own k g n=>(match zP P t,slk k h.l with
   | some el',some (.list el _ g' _ u _)=>cond (Nat.beq el' el&&Nat.beq g g') (qP5 n n hi fun b=>qP5 0 b lo fun a =>
      .ite (Nat.beq a 0) (K (.sl k g n 0 b)) (.ite (Nat.beq a b) (K (.d (.list el u) [])) (K (.sl k g n a (b - a))))) .fail
   | _,_=>.fail)
 | .sl k g n o m=>(match zP P t,slk k h.l with
   | some el',some (.list el _ g' _ u _)=>cond (Nat.beq el' el&&Nat.beq g g') (qP5 m m hi fun b=>qP5 0 b lo fun a =>
      .ite (Nat.beq a 0) (K (.sl k g n o b)) (.ite (Nat.beq a b) (K (.d (.list el u) [])) (K (.sl k g n (o+a) (b - a))))) .fail
   | _,_=>.fail)
 | .ref k 0 w=>(match qP1 P t,slk k h.l with
   | some (m,el2),some (.spc v (.arr el _ xs))=>(match szT P el2 with
     | some 1=>cond (!Nat.beq el2 el&&Nat.beq m w) (.ite (Nat.beq w (List.length xs)) (qP5 m m hi fun b=>qP5 0 b lo fun a=>.ite (Nat.beq a 0&&Nat.beq b m) (K (.asl el2 k v m)) .fail) .fail) .fail
     | _=>.fail)
   | _,_=>.fail)
 | _=>.fail
theorem qXG {t:TypeId}{lo hi:Option SV}{K:SV->zEP R}(ho:OkH P h)(hx:x.ok h)(e:(qYD P t x lo hi h K).run=some r) :
 ∃ v,wW P t x.enc (lo.map SV.enc) (hi.map SV.enc) (qC h.l)=some v.enc∧v.ok h∧(K v).run=some r:=by
 unfold qYD at e
 have key:∀ {k g n o m w:Nat} {gr:Bool} {el el':TypeId} {u:Ty} {xs:List u.sem},slk k h.l=some (.list el gr g w u xs)->n=xs.length->o+m<=n->g < h.next->zP P t=some el'->Nat.beq el' el=true ->
  ∀ a b,bnd m m (hi.map SV.enc)=some b->b<=m->bnd 0 b (lo.map SV.enc)=some a->a<=b ->
  (zEP.ite (Nat.beq a 0) (K (.sl k g n o b)) (.ite (Nat.beq a b) (K (.d (.list el u) [])) (K (.sl k g n (o+a) (b - a))))).run=some r ->
  ∃ v,wW P t (.own k n o m) (lo.map SV.enc) (hi.map SV.enc) (qC h.l)=some v.enc∧v.ok h∧(K v).run=some r:=by
  intro k g n o m w gr el el' u xs hk hn hom hg hel hbe a b hb hbm ha hab e;have hl:=ho.list _ _ _ _ _ _ _ hk
  have pre:wW P t (.own k n o m) (lo.map SV.enc) (hi.map SV.enc) (qC h.l)=some (cond (Nat.beq a 0) (.own k n o b) (cond (Nat.beq a b) (.f (.l el 0 [])) (.own k n (o+a) (b - a)))):=by
   simp only[wW,zL hk,hel];rw[show (SO.list el gr g w u xs).enc.el=el from rfl,hl.2.1,hb];simp only[ha,qU,hn,aC,hbe,zO5,cond_true]
  have hsl:qUZ h k g n:=⟨hg,fun el2 gr2 w2 t2 xs2 hk2=>by
   rw[hk] at hk2;cases hk2
   exact hn⟩
  rw[pre]
  rcases run_ite e with ⟨z,e⟩ | ⟨z,e⟩
  ·exact⟨_,by rw[z];simp[SV.enc],by simp only[SV.ok];exact⟨hsl,by omega⟩,e⟩
  ·rcases run_ite e with ⟨z2,e⟩ | ⟨z2,e⟩
   ·exact⟨_,by rw[z,z2];simp[SV.enc,Ty.fv],by simp[SV.ok],e⟩
   ·exact⟨_,by rw[z,z2];simp[SV.enc],by simp only[SV.ok];exact⟨hsl,by omega⟩,e⟩
 split at e
 ·rename_i el u xs;split at e
  ·rename_i el' s hel hs;have e_:=qE e;clear e;obtain⟨c1,e⟩:=e_;rw[zN8] at c1;have hw:s=u.w:=zN9 c1.2;have he:el'=el:=zN9 c1.1;subst hw he;obtain⟨b,hb,hb2,e1⟩:=vW e;obtain⟨a,ha,ha2,e2⟩:=vW e1;have hbl:b<=xs.length:=by rcases hb2 with q | q <;> omega
   have hab:a<=b:=by rcases ha2 with q | q <;> omega
   refine⟨_,?_,by simp[SV.ok],e2⟩;simp only[SV.enc,Ty.fv,wW,hel,hs,hb,ha,aC,zV,zO5,cond_true];rw[gU,gK]
   cases hq:Nat.beq a b with
   | true =>
     have:a=b:=zN9 hq;subst this;simp
   | false =>
     simp only[cond_false,zPX,zQ0];rw[zP2 (by omega)]
  ·cases e
 ·split at e
  ·rename_i el hel;have e_:=qE e;clear e;obtain⟨c1,e⟩:=e_;obtain⟨b,hb,hb2,e1⟩:=vW e;obtain⟨a,ha,ha2,e2⟩:=vW e1;refine⟨_,?_,by simp[SV.ok],e2⟩;have hb':bnd 0 0 (hi.map SV.enc)=some b:=hb;simp only[SV.enc,fvv,wW,hel,hb',ha,c1,cond_true]
  ·cases e
 ·rename_i k g n;split at e
  ·rename_i el' el gr g' w u xs hel hk;have e_:=qE e;clear e;obtain⟨c1,e⟩:=e_;rw[zN8] at c1;have hg:g=g':=zN9 c1.2;subst hg;obtain⟨b,hb,hb2,e1⟩:=vW e;obtain⟨a,ha,ha2,e2⟩:=vW e1;simp only[SV.ok] at hx;refine key hk (hx.2 _ _ _ _ _ hk) (by omega) hx.1 hel c1.1 a b hb (by rcases hb2 with q | q <;> omega) ha (by rcases ha2 with q | q <;> omega) ?_;rw[zOV];exact e2
  ·cases e
 ·rename_i k g n o m;split at e
  ·rename_i el' el gr g' w u xs hel hk;have e_:=qE e;clear e;obtain⟨c1,e⟩:=e_;rw[zN8] at c1;have hg:g=g':=zN9 c1.2;subst hg;obtain⟨b,hb,hb2,e1⟩:=vW e;obtain⟨a,ha,ha2,e2⟩:=vW e1;simp only[SV.ok] at hx;exact key hk (hx.1.2 _ _ _ _ _ hk) hx.2 hx.1.1 hel c1.1 a b hb (by rcases hb2 with q | q <;> omega) ha (by rcases ha2 with q | q <;> omega) e2
  ·cases e
 ·rename_i k w;split at e
  ·rename_i m el2 v el ik xs ha hk;split at e
   ·rename_i hs;obtain⟨c1,e0⟩:=qE e;rw[zN8,zO0] at c1;have hmw:=zN9 c1.2;subst hmw
    rcases run_ite e0 with ⟨z,e1⟩ | ⟨_,e1⟩
    ·obtain⟨b,hb,_,e2⟩:=vW e1;obtain⟨a,hal,_,e3⟩:=vW e2
     rcases run_ite e3 with ⟨z2,e4⟩ | ⟨_,e4⟩
     ·rw[zN8] at z2;have h0:=zN9 z2.1;have h1:=zN9 z2.2;subst h0 h1;refine⟨_,?_,?_,e4⟩
      ·simp only[SV.enc,wW,zL hk,ha,hs,hb,hal];show cond (Nat.beq el2 el&&_) _ (cond (Nat.beq b (xs.map fun x=>fvv (.int ik x)).length&&(Nat.beq b b&&(Nat.beq 0 0&&(!false&&(Nat.beq 0 0&&Nat.beq b b))))) _ _)=_;rw[c1.1,zOK,z];simp only[Bool.false_and,cond_false,aC,zO5,Bool.not_false,cond_true]
      ·simp only[SV.ok];refine⟨ho.ver _ _ hk,fun ob hob _=>?_⟩;rw[hk] at hob;cases hob;exact⟨_,_,_,rfl,zN9 z⟩
     ·cases e4
    ·cases e1
   ·cases e
  ·cases e
 ·cases e
end
end Go.Sv
namespace Go.Sv
open Go.Idl
variable [Gc]
variable {P:Program}{t t2:TypeId}{a b:ByteArray}{ph:PHp}
theorem dZ {v:Value}(h3:qJW v=true)(h4:ofC v=fvv v):qY3 (qC8 H00 v)=some (fvv v):=by
 unfold qC8;rw[h3];show some (ofC v)=_;rw[h4]
theorem qL6 {op:BinOp}{v:Value}(h1:zE5 P (cop (.binOp op t (.const (.string a)) (.const (.string b)) t2)) op t (.string a) (.string b) [] H00=jK P (cop (.binOp op t (.const (.string a)) (.const (.string b)) t2)) [] H00)
 (h2:xP P (execOp (Env.val []) (cop (.binOp op t (.const (.string a)) (.const (.string b)) t2)))=some (.value v)) (h3:qJW v=true) (h4:ofC v=fvv v):uG P op t t2 (fvv (.string a)) (fvv (.string b)) ph=some (fvv v):=by
 unfold uG;simp only[fvv,pl,zBT,cond_false];show qY3 (zE5 P _ op t (.string a) (.string b) [] H00)=_;rw[h1];unfold jK;have:zM (kY (Env.val []) (cop (.binOp op t (.const (.string a)) (.const (.string b)) t2)).op.operands.toList)=true:=rfl;rw[if_pos this,h2];exact dZ h3 h4
theorem q51 (hl:a.size+b.size<=9223372036854775807):uG P .add t t2 (fvv (.string a)) (fvv (.string b)) ph=some (fvv (.string (a++b))):=by
 refine qL6 rfl ?_ rfl rfl;have hm:IntKind.i64.max=9223372036854775807:=rfl;have:¬ (((a.size+b.size:Nat):Int) > IntKind.i64.max):=by rw[hm];omega
 show xP P (do eqGuard .add t (.const (.string a)) (.const (.string b)) (.string a) (.string b);let v <- Op.stringOp .add a b;pure (Next.value v))=_;unfold Op.stringOp;simp only[this,if_false];rfl
theorem q5V:uG P .eql t t2 (fvv (.string a)) (fvv (.string b)) ph=some (fvv (.bool (a.toList==b.toList))):=qL6 rfl rfl rfl rfl
theorem q5F:uG P .neq t t2 (fvv (.string a)) (fvv (.string b)) ph=some (fvv (.bool (!(a.toList==b.toList)))):=qL6 rfl rfl rfl rfl
theorem dB {α β:Type}(s:Sem α)(g:α->Sem β):xP P (s >>= g)=(xP P s).bind fun a=>xP P (g a):=vF g s
theorem dP {α:Type}(a:α):xP P (pure a:Sem α)=some a:=rfl
theorem q00 {ts:Array TypeId}(hs:qY6 P ts=true):∃ t,ts[0]?=some t∧P.underlying t=some .string:=by
 unfold qY6 at hs
 cases h0:ts[0]? with
 | none=>rw[h0] at hs;cases hs
 | some t =>
   rw[h0] at hs;simp only[zOX] at hs;split at hs
   ·rename_i hq;exact⟨t,rfl,hq⟩
   ·cases hs
theorem zA7 {t:TypeId}{ts:Array TypeId}{ty:TypeId}(h0:ts[0]?=some t)(hu:P.underlying t=some .string):xP P (Go.Builtin.len_ ts ty #[.string a])=some (goInt a.size):=by
 unfold Go.Builtin.len_;simp only[h0,dB,zZ,hu,zOX,zQG,zO3];rfl
theorem qRO {x:Operand}{ts:Array TypeId}{ty:TypeId}{env:Env}(hs:qY6 P ts=true)(hx:env.val x=.string a) :
 qY3 (jK P (cop (.call ⟨.builtin .len,#[x],ts⟩) ty) env H00)=some (fvv (.int .i64 (a.size:Int))):=by
 have h2:kY env.val (cop (.call ⟨.builtin .len,#[x],ts⟩) ty).op.operands.toList=[env.val x]:=rfl;unfold jK;rw[h2];obtain⟨t,h0,hu⟩:=q00 hs;have hp:zM [env.val x]=true:=by rw[hx];rfl
 rw[if_pos hp]
 have he:xP P (execOp env.val (cop (.call ⟨.builtin .len,#[x],ts⟩) ty))=some (.value (goInt a.size)):=by
  simp only[cop,execOp,resolve,List.map_toArray,zOQ,zQK,hx];show xP P (do let v <- Go.Builtin.len_ ts ty #[.string a];pure (Next.value v))=_;rw[dB,zA7 h0 hu];rfl
 rw[he];exact dZ rfl rfl
def q5O (s:ByteArray)(i:Int):Option Int:=if 0<=i then (s[i.toNat]?).map fun b=>(b.toNat:Int) else none
theorem q25 {t:TypeId}{s:ByteArray}{k:IntKind}{i c:Int}{ty:TypeId}(hu:P.underlying t=some .string)(h:q5O s i=some c):qNH P (.index t (.const (.string s)) (.const (.int k i))) ty=some (fvv (.int .u8 c)):=by
 unfold qNH jK;have hp:zM (kY (Env.val []) (cop (.index t (.const (.string s)) (.const (.int k i))) ty).op.operands.toList)=true:=rfl;rw[if_pos hp]
 have he:xP P (execOp (Env.val []) (cop (.index t (.const (.string s)) (.const (.int k i))) ty))=some (.value (.int .u8 c)):=by
  show xP P (do let v <- Instr.index t (.string s) (.int k i);pure (Next.value v))=_;unfold q5O at h;split at h
  ·rename_i hc;obtain⟨b,hb,rfl⟩:=zOL.1 h;unfold Instr.index;simp only[dB,zZ,hu,zOX];have h0:xP P (asIntOf (.int k i))=some (k,i):=rfl;rw[h0];simp only[zOX,if_pos hc,hb,dP]
  ·cases h
 rw[he];exact dZ rfl rfl
theorem qAE {k:IntKind}{i:Int}{y n:Nat}{code:BoundsCode}(h:(if 0<=i∧i<=(y:Int) then some i.toNat else none)=some n):xP P (Instr.sliceBound (.int k i) y code)=some n:=by
 unfold Instr.sliceBound;rw[dB];have h0:xP P (asIntOf (.int k i))=some (k,i):=rfl;rw[h0];simp only[zOX];split at h
 ·rename_i hc;rw[if_pos hc];cases h;rfl
 ·cases h
theorem qXY {d most n:Nat}{x:Option PV}(h:bnd d most x=some n):(x=none∧n=d)∨∃ k i,x=some (fvv (.int k i))∧(if 0<=i∧i<=(most:Int) then some i.toNat else none)=some n:=by
 unfold bnd at h;split at h
 ·cases h;exact .inl ⟨rfl,rfl⟩
 ·rename_i k i;exact .inr ⟨k,i,rfl,h⟩
 ·cases h
theorem q1M {t:TypeId}{s:ByteArray}{lo hi:Option Operand}{l u:Nat}{env:List PV}{ty:TypeId}(hu:P.underlying t=some .string)(h1:bnd s.size s.size (hi.map (qK env))=some u)(h2:bnd 0 u (lo.map (qK env))=some l) :
 qNH P (.slice t (.const (.string s)) (lo.map fun a=>.const ((pl (qK env a)).getD undef)) (hi.map fun a=>.const ((pl (qK env a)).getD undef)) none) ty=some (fvv (.string (s.extract l u))):=by
 have opt:∀ {o:Option Operand} {d most n:Nat},bnd d most (o.map (qK env))=some n->(o=none∧n=d)∨∃ k i,(o.map fun a=>Operand.const ((pl (qK env a)).getD undef))=some (.const (.int k i))∧(if 0<=i∧i<=(most:Int) then some i.toNat else none)=some n:=fun {o d most n} h=>by
  rcases qXY h with ⟨q,e⟩ | ⟨k,i,q,e⟩
  ·cases o with
   | none=>exact .inl ⟨rfl,e⟩
   | some a=>cases q
  ·cases o with
   | none=>cases q
   | some a =>
     have q:qK env a=fvv (.int k i):=by simpa using q
     exact .inr ⟨k,i,by simp[q,fvv,pl],e⟩
 unfold qNH jK
 have hk:∀ (lo' hi':Option Operand) (vl vh:Option Value),lo'.map (Env.val [])=vl->hi'.map (Env.val [])=vh->zM (kY (Env.val []) (cop (.slice t (.const (.string s)) lo' hi' none) ty).op.operands.toList)=true ->
  xP P (Instr.sliceBounds false s.size s.size vl vh none)=some (l,u,s.size)->qY3 (if zM (kY (Env.val []) (cop (.slice t (.const (.string s)) lo' hi' none) ty).op.operands.toList)=true then qHR H00 (xP P (execOp (Env.val []) (cop (.slice t (.const (.string s)) lo' hi' none) ty))) else none)=some (fvv (.string (s.extract l u))):=by
  intro lo' hi' vl vh e1 e2 hp hb;rw[if_pos hp]
  have he:xP P (execOp (Env.val []) (cop (.slice t (.const (.string s)) lo' hi' none) ty))=some (.value (.string (s.extract l u))):=by
   show xP P (do let v <- Instr.sliceAt t (.string s) (lo'.map (Env.val [])) (hi'.map (Env.val [])) none;pure (Next.value v))=_;rw[e1,e2];unfold Instr.sliceAt;simp only[dB,zZ,hu,zOX];unfold Instr.slice;simp only[dB,zZ,hu,zOX];simp only[zST,zQC,if_false,dB,hb,zOX,dP]
  rw[he];exact dZ rfl rfl
 have hB:∀ (vl vh:Option Value),(vh=none∧u=s.size∨∃ k i,vh=some (.int k i)∧(if 0<=i∧i<=(s.size:Int) then some i.toNat else none)=some u)->(vl=none∧l=0∨∃ k i,vl=some (.int k i)∧(if 0<=i∧i<=(u:Int) then some i.toNat else none)=some l) ->
  xP P (Instr.sliceBounds false s.size s.size vl vh none)=some (l,u,s.size):=by
  intro vl vh a b;unfold Instr.sliceBounds;rcases a with ⟨rfl,rfl⟩ | ⟨k,i,rfl,ha⟩ <;> rcases b with ⟨rfl,rfl⟩ | ⟨k',i',rfl,hb⟩ <;> simp only[dB,dP,zOX,zST,zQC,if_false]
  ·rw[qAE hb];rfl
  ·rw[qAE ha];rfl
  ·rw[qAE ha];simp only[zOX];rw[qAE hb];rfl
 rcases opt h1 with ⟨rfl,e1⟩ | ⟨k,i,e1,f1⟩ <;> rcases opt h2 with ⟨rfl,e2⟩ | ⟨k',i',e2,f2⟩
 ·exact hk none none none none rfl rfl rfl (hB _ _ (.inl ⟨rfl,e1⟩) (.inl ⟨rfl,e2⟩))
 ·rw[e2];exact hk _ none _ none rfl rfl rfl (hB _ _ (.inl ⟨rfl,e1⟩) (.inr ⟨k',i',rfl,f2⟩))
 ·rw[e1];exact hk none _ none _ rfl rfl rfl (hB _ _ (.inr ⟨k,i,rfl,f1⟩) (.inl ⟨rfl,e2⟩))
 ·rw[e1,e2];exact hk _ _ _ _ rfl rfl rfl (hB _ _ (.inr ⟨k,i,rfl,f1⟩) (.inr ⟨k',i',rfl,f2⟩))
theorem q6I {s d:TypeId}{k k':IntKind}{x:Int}{u:TypeDesc}(hs:P.underlying s=some u)(hd:P.underlying d=some (.int k')):bO P (fun a=>.convert s d a) (fvv (.int k x))=some (fvv (.int k' (k'.wrap x))):=by
 have hl:pl (fvv (.int k x))=some (.int k x):=rfl;unfold bO;rw[hl];unfold qNH jK;have hp:zM (kY (Env.val []) (cop (.convert s d (.const (.int k x)))).op.operands.toList)=true:=rfl;simp only[hp,if_true]
 have he:xP P (execOp (Env.val []) (cop (.convert s d (.const (.int k x)))))=some (.value (.int k' (k'.wrap x))):=by
  show xP P (do let v <- convert s d (.int k x);pure (Next.value v))=_;unfold convert;simp only[dB,zZ,hs,hd,zOX];rfl
 rw[he];exact dZ rfl rfl
theorem q2I {s d:TypeId}{x:ByteArray}{u:TypeDesc}(hs:P.underlying s=some u)(hd:P.underlying d=some .string):bO P (fun a=>.convert s d a) (fvv (.string x))=some (fvv (.string x)):=by
 have hl:pl (fvv (.string x))=some (.string x):=rfl;unfold bO;rw[hl];unfold qNH jK;have hp:zM (kY (Env.val []) (cop (.convert s d (.const (.string x)))).op.operands.toList)=true:=rfl;simp only[hp,if_true]
 have he:xP P (execOp (Env.val []) (cop (.convert s d (.const (.string x)))))=some (.value (.string x)):=by
  show xP P (do let v <- convert s d (.string x);pure (Next.value v))=_;unfold convert;simp only[dB,zZ,hs,hd,zOX];cases u <;> rfl
 rw[he];exact dZ rfl rfl
end Go.Sv
namespace Go.Sv
open Go.Idl
noncomputable section
variable [Gc]
variable [Yl]
variable {P:Program}{h:SH}{R:Type}{r:R}
def qEM:SV->Option Value
 | .d (.int k) x=>some (.int k x)
 | .d .bool x=>some (.bool x)
 | .d .str x=>some (.string x)
 | .c v=>some v
 | _=>none
theorem sJ {v:SV}{a:Value}(e:qEM v=some a):v.enc=fvv a:=by
 unfold qEM at e;split at e <;> cases e <;> simp[SV.enc,Ty.fv,fvv]
def qGP:List SV->Option (List Value)
 | []=>some []
 | v::l=>match qEM v,qGP l with
   | some a,some b=>some (a::b)
   | _,_=>none
def aR:SV->Option Value
 | .agg l=>(match qGP l with
   | some vs=>some (.agg vs.toArray)
   | none=>none)
 | v=>qEM v
theorem qE5:∀ {l:List SV} {vs:List Value},qGP l=some vs->qLD (qB l)=some vs
 | [],vs,e=>by cases e;simp[qB,qLD]
 | v::l,vs,e=>by
   unfold qGP at e;split at e
   ·rename_i a b ha hb;cases e;simp only[qB,sJ ha,fvv,qLD,pl1,qE5 hb]
   ·cases e
theorem wO {v:SV}{a:Value}(e:aR v=some a):pl v.enc=some a:=by
 unfold aR at e;split at e
 ·rename_i l;split at e
  ·rename_i vs hvs;cases e;simp only[SV.enc,pl,qE5 hvs]
  ·cases e
 ·rw[sJ e];rfl
def zDW (op:BinOp)(a b:ByteArray)(K:SV->zEP R)(F:zEP R):zEP R:=match op with
 | .add=>.ite (Nat.ble (a.size+b.size) 9223372036854775807) (K (.d .str (a++b))) .fail
 | .eql=>K (.d .bool (a.toList==b.toList))
 | .neq=>K (.d .bool (!(a.toList==b.toList)))
 | _=>F
def qRC (P:Program)(t:TypeId):Bool:=match P.underlying t with
 | some .string=>true
 | _=>false
omit [Yl] in
theorem qE9 {t:TypeId}(e:qRC P t=true):P.underlying t=some .string:=by
 unfold qRC at e;split at e
 ·assumption
 ·cases e
def qNX (P:Program)(t:TypeId)(s:ByteArray)(ix:SV)(K:SV->zEP R):zEP R:=match asI ix with
 | some (_,i)=>cond (qRC P t) (.bind (q5O s i) fun c=>K (.d (.int .u8) c)) .fail
 | none=>.fail
def qYX (P:Program)(t:TypeId)(s:ByteArray)(lo hi:Option SV)(K:SV->zEP R):zEP R :=
 cond (qRC P t) (qP5 s.size s.size hi fun b=>qP5 0 b lo fun a=>K (.d .str (s.extract a b))) .fail
def qZY (P:Program)(s d:TypeId)(x:SV)(K:SV->zEP R)(F:zEP R):zEP R:=match P.underlying s,P.underlying d with
 | some _,some (.int k')=>(match asI x with
   | some (_,a)=>K (.d (.int k') (k'.wrap a))
   | none=>F)
 | some _,some .string=>(match asS x with
   | some a=>K (.d .str a)
   | none=>F)
 | _,_=>F
def Ty.vals:(t:Ty)->List Value->Option (t.sem×List Value)
 | .int k,.int k' x::l=>cond (decide (k'=k)) (some (x,l)) none
 | .bool,.bool x::l=>some (x,l)
 | .str,.string x::l=>some (x,l)
 | .unit,l=>some ((),l)
 | .pair a b,l=>match a.vals l with
   | some (x,l1)=>(match b.vals l1 with
     | some (y,l2)=>some ((x,y),l2)
     | none=>none)
   | none=>none
 | _,_=>none
def Ty.ofV (t:Ty)(v:Value):Option t.sem:=cond t.one (match t.vals [v] with
 | some (x,[])=>some x
 | _=>none) (match v with
 | .agg a=>(match t.vals a.toList with
   | some (x,[])=>some x
   | _=>none)
 | _=>none)
def q2N (t:Ty)(x:t.sem):SV:=cond t.one (.d t x) (.agg (t.svs x))
omit [Yl] in
theorem qC7 (t:Ty)(x:t.sem):(q2N t x).ok h:=by
 unfold q2N
 cases t.one with
 | true=>simp[SV.ok]
 | false=>simp only[cond_false,SV.ok];exact qEQ t x
omit [Yl] in
theorem qI8:∀ {a b:List Value},jH okC a=true->jH okC b=true->jH okC (a++b)=true
 | [],_,_,h=>h
 | x::a,b,h1,h2=>by
   rw[xS,zN8] at h1;rw[zQE,xS,h1.1,qI8 h1.2 h2];rfl
omit [Yl] in
theorem dL:∀ {t:Ty} {l l':List Value} {x:t.sem},t.vals l=some (x,l')->∃ us,l=us++l'∧jH okC us=true∧kY fvv us=(t.cells x).map PV.f
 | .int k,l,l',x,e=>by
   cases l with
   | nil=>cases e
   | cons v l =>
     cases v <;> try (cases e;done)
     rename_i k' y;have e:cond (decide (k'=k)) (some ((y:Int),l)) none=some (x,l'):=e
     cases hk:decide (k'=k) with
     | false=>rw[hk] at e;cases e
     | true =>
       rw[hk] at e;cases e;have:k'=k:=by simpa using hk
       subst this;exact⟨[.int k' x],rfl,rfl,rfl⟩
 | .bool,l,l',x,e=>by
   cases l with
   | nil=>cases e
   | cons v l =>
     cases v <;> try (cases e;done)
     cases e;exact⟨[.bool x],rfl,rfl,rfl⟩
 | .str,l,l',x,e=>by
   cases l with
   | nil=>cases e
   | cons v l =>
     cases v <;> try (cases e;done)
     cases e;exact⟨[.string x],rfl,rfl,rfl⟩
 | .unit,l,l',x,e=>by
   have e:some ((),l)=some ((),l'):=by cases l <;> exact e
   cases e;exact⟨[],rfl,rfl,rfl⟩
 | .list _ _,l,l',x,e=>by cases l <;> cases e
 | .raw,l,l',x,e=>by cases l <;> cases e
 | .ol _ _,l,l',x,e=>by cases l <;> cases e
 | .nif,l,l',x,e=>by cases l <;> cases e
 | .pair a b,l,l',x,e=>by
   have e:(match a.vals l with
    | some (x,l1)=>(match b.vals l1 with
      | some (y,l2)=>some ((x,y),l2)
      | none=>none)
    | none=>none)=some (x,l'):=by cases l <;> exact e
   split at e
   ·rename_i x1 l1 h1;split at e
    ·rename_i y l2 h2;cases e;obtain⟨us,rfl,u1,u2⟩:=dL h1;obtain⟨ws,rfl,w1,w2⟩:=dL h2;refine⟨us++ws,by rw[zO8],?_,?_⟩
     ·exact qI8 u1 w1
     ·show _=(a.cells x1++b.cells y).map PV.f;rw[xD] at u2 w2 ⊢;rw[zPQ,zPQ,u2,w2]
    ·cases e
   ·cases e
theorem sH {t:Ty}{v:Value}{x:t.sem}(e:t.ofV v=some x):ofC v=(q2N t x).enc:=by
 unfold Ty.ofV at e;unfold q2N
 cases ht:t.one with
 | true =>
   rw[ht] at e;simp only[cond_true] at e ⊢;split at e
   ·rename_i y hy;cases e;obtain⟨us,h1,h2,h3⟩:=dL hy;rw[zP7] at h1;subst h1;rw[Ty.cells_one ht] at h3
    have h3:fvv v=.f (t.fv x):=by
     have:kY fvv [v]=[fvv v]:=rfl;rw[this] at h3;simpa using h3
    have h2:okC v=true:=by
     rw[xS,zN8] at h2;exact h2.1
    have:ofC v=fvv v:=by
     unfold okC at h2;rw[zN8] at h2
     cases v <;> first | (exact absurd h2.2 (by decide)) | skip
     all_goals first | (show q5P _=_;unfold q5P okC;simp[h2.1,h2.2]) | (simp[oneCell] at h2)
    rw[this,h3];simp[SV.enc]
   ·cases e
 | false =>
   rw[ht] at e;simp only[cond_false] at e ⊢;split at e
   ·rename_i a;split at e
    ·rename_i y hy;cases e;obtain⟨us,h1,h2,h3⟩:=dL hy;rw[zP7] at h1;show cond (jH okC a.toList) (PV.agg (kY fvv a.toList)) .unk=_;rw[h1,h2,h3];simp only[cond_true,SV.enc,gZ]
    ·cases e
   ·cases e
def smp (x:SV)(h:SH):Option (Nat×List (Value×Value)):=match x with
 | .mp k=>(match slk k h.l with
   | some (.spc _ (.map es))=>some (k,es)
   | _=>none)
 | _=>none
omit [Yl] in
theorem gP:∀ (n:Nat) (es:List (Value×Value)) (i:Nat),(xH n es)[i]?=(es[i]?).map fun p=>(⟨p.1,p.2,n+i⟩:MapEntry)
 | n,[],i=>by simp[xH]
 | n,p::es,0=>by simp[xH]
 | n,p::es,i+1=>by
   show (xH (n+1) es)[i]?=_;rw[gP (n+1) es i];have:n+1+i=n+(i+1):=by omega
   rw[this];simp
omit [Yl] in
theorem qDE:∀ (n:Nat) (es:List (Value×Value)),(xH n es).length=es.length
 | n,[]=>rfl
 | n,p::es=>by
   show (xH (n+1) es).length+1=_;rw[qDE,zOU]
omit [Yl] in
theorem oV:∀ (n:Nat) (es:List (Value×Value)) (k v:Value),xH n (es++[(k,v)])=xH n es++[⟨k,v,n+es.length⟩]
 | n,[],k,v=>rfl
 | n,p::es,k,v=>by
   show _::xH (n+1) (es++[(k,v)])=_;rw[oV (n+1) es k v];show _=_::(xH (n+1) es++_);rw[zOU];have:n+1+es.length=n+(es.length+1):=by omega
   rw[this]
omit [Yl] in
theorem qBK (es:List (Value×Value))(i:Nat)(k v:Value)(f:MapEntry->MapEntry)(hf:∀ p,es[i]?=some p->f ⟨p.1,p.2,i⟩=⟨k,v,i⟩):xH 0 (es.set i (k,v))=(xH 0 es).modify i f:=by
 apply zPR;intro j;rw[gP,zSJ,gP,zO4,zOV];by_cases hij:i=j
 ·subst hij;rw[if_pos rfl];simp only[if_true]
  cases he:es[i]? with
  | none =>
    have:¬ i < es.length:=fun hl=>by rw[zOC hl] at he;cases he
    rw[if_neg this];rfl
  | some p =>
    have:=(zOE.1 he).1;rw[if_pos this];simp[hf p he]
 ·rw[if_neg hij];simp only[if_neg hij];cases es[j]? <;> rfl
theorem qZS {x:SV}{k:Nat}{es:List (Value×Value)}(hs:spec P 1000000001=true)(e:smp x h=some (k,es)):gN P x.enc (qC h.l)=some (k,(SpO.map es).enc,es.length,xH 0 es)∧∃ w,slk k h.l=some (.spc w (.map es)):=by
 unfold smp at e;split at e
 ·rename_i k';split at e
  ·rename_i w es' hk;cases e;refine⟨?_,w,hk⟩;simp only[SV.enc,gN,zL hk]
   show cond (spec P 1000000001&&Nat.beq 1000000001 1000000001) (match mapOf (kS es.length (xH 0 es)) with
    | some (c,es')=>some (k,(SO.spc w (SpO.map es)).enc,c,es')
    | none=>none) none=_
   rw[hs,qH3];rfl
  ·cases e
 ·cases e
def zD3 (P:Program)(kt:TypeId)(k:Value)(es:List (Value×Value)):Option Bool:=(uI P kt k (xH 0 es)).map Option.isSome
def zCJ (P:Program)(kt:TypeId)(t:Ty)(k:Value)(es:List (Value×Value)):Option t.sem:=match uI P kt k (xH 0 es) with
 | some (some i)=>(match es[i]? with
   | some p=>t.ofV p.2
   | none=>none)
 | _=>none
def q7F (ok:Bool)(t:Ty)(x:t.sem)(b:Bool):SV:=cond ok (.tup [q2N t x,.c (.bool b)]) (q2N t x)
theorem qRD {ok b:Bool}{t:Ty}{x:t.sem}{v:Value}(e:t.ofV v=some x):q3E ok v b=(q7F ok t x b).enc:=by
 unfold q3E q7F
 cases ok with
 | true=>simp[sH e,SV.enc,qB]
 | false=>exact sH e
omit [Yl] in
theorem qXU {ok b:Bool}{t:Ty}{x:t.sem}:(q7F ok t x b).ok h:=by
 unfold q7F
 cases ok with
 | true=>simp only[cond_true,SV.ok,okL,and_true];exact qC7 t x
 | false=>exact qC7 t x
def qNA (P:Program)(t:TypeId)(m kx:SV)(ok:Bool)(h:SH)(K:SV->zEP R):zEP R:=match P.underlying t,smp m h,aR kx with
 | some (.map kt et),some (_,es),some kv=>(match qBA P 8 et,wZ P et with
   | some vt,some z=>(match vt.ofV z with
     | some z0=>cond (spec P 1000000001&&zW z) (.bind (zD3 P kt kv es) fun b=>.ite b (.bind (zCJ P kt vt kv es) fun x=>K (q7F ok vt x true)) (K (q7F ok vt z0 false))) .fail
     | none=>.fail)
   | _,_=>.fail)
 | _,_,_=>.fail
theorem qRR {t:TypeId}{m kx:SV}{ok:Bool}{K:SV->zEP R}(e:(qNA P t m kx ok h K).run=some r):∃ v,kP P t m.enc kx.enc ok (qC h.l)=some v.enc∧v.ok h∧(K v).run=some r:=by
 unfold qNA at e;split at e
 case h_2=>cases e
 rename_i kt et k es kv hu hm hk;split at e
 case h_2=>cases e
 rename_i vt z hvt hz;split at e
 case h_2=>cases e
 rename_i z0 hz0;obtain⟨c,e1⟩:=qE e;rw[zN8] at c;obtain⟨b,hb,e2⟩:=run_bind e1;obtain⟨h1,w,h2⟩:=qZS c.1 hm
 have pre:kP P t m.enc kx.enc ok (qC h.l)=(match uI P kt kv (xH 0 es) with
  | some (some i)=>(match (xH 0 es)[i]? with
    | some e=>some (q3E ok e.val true)
    | none=>none)
  | some none=>some (q3E ok z false)
  | none=>none):=by
  unfold kP;rw[hu,h1,wO hk];simp only[hz,c.2,cond_true];rfl
 rw[pre];unfold zD3 at hb
 cases hf:uI P kt kv (xH 0 es) with
 | none=>rw[hf] at hb;cases hb
 | some o =>
   rw[hf] at hb
   cases o with
   | none =>
     cases hb;refine⟨_,by simp only[qRD hz0],qXU,e2⟩
   | some i =>
     cases hb;obtain⟨x,hx,e3⟩:=run_bind (show (zEP.bind (zCJ P kt vt kv es) fun x=>K (q7F ok vt x true)).run=some r from e2);unfold zCJ at hx;rw[hf] at hx;simp only at hx;split at hx
     ·rename_i p hp;refine⟨_,?_,qXU,e3⟩;simp only[gP,hp,zOM,qRD hx]
     ·cases hx
def zDF (P:Program)(kt:TypeId)(k v:Value)(es:List (Value×Value)):Option (List (Value×Value)):=match uI P kt k (xH 0 es) with
 | some (some i)=>(match es[i]? with
   | some p=>cond (Instr.sameBits 10000 p.1 k) (some (es.set i (k,v))) none
   | none=>none)
 | some none=>some (es++[(k,v)])
 | none=>none
def rM (P:Program)(t:TypeId)(m kx x:SV)(h:SH)(K:SV->SH->zEP R):zEP R:=match P.underlying t,smp m h,aR kx,aR x with
 | some (.map kt _),some (k,es),some kv,some xv=>cond (spec P 1000000001&&zC xv) (.bind (zDF P kt kv xv es) fun es'=>K (.tup []) (h.put k fun v=>.spc v (.map es'))) .fail
 | _,_,_,_=>.fail
theorem bF {k:Nat}{es es':List (Value×Value)}{w:Nat}(ho:OkH P h)(hk:slk k h.l=some (.spc w (.map es))):Keep h (h.put k fun v=>.spc v (.map es'))∧OkH P (h.put k fun v=>.spc v (.map es')) ∧
 qC (h.put k fun v=>.spc v (.map es')).l=xQ k { (SpO.map es).enc with cs:=kS es'.length (xH 0 es') } (qC h.l):=by
 have:=vS (f:=fun v=>.spc v (.map es')) ho hk rfl;exact⟨this.1,this.2,xX k _ _⟩
theorem qH5 {t:TypeId}{m kx x:SV}{K:SV->SH->zEP R}(ho:OkH P h)(e:(rM P t m kx x h K).run=some r) :
 ∃ h',jW P t m.enc kx.enc x.enc (qC h.l)=some (qC h'.l)∧Keep h h'∧OkH P h'∧(K (.tup []) h').run=some r:=by
 unfold rM at e;split at e
 case h_2=>cases e
 rename_i kt et k es kv xv hu hm hkv hxv;obtain⟨c,e1⟩:=qE e;rw[zN8] at c;obtain⟨es',hs,e2⟩:=run_bind e1;obtain⟨h1,w,h2⟩:=qZS c.1 hm;obtain⟨p1,p2,p3⟩:=bF (es':=es') ho h2;refine⟨_,?_,p1,p2,e2⟩;unfold jW;rw[hu,h1,wO hkv,wO hxv,p3];simp only[c.2,cond_true];unfold zDF at hs
 cases hf:uI P kt kv (xH 0 es) with
 | none=>rw[hf] at hs;cases hs
 | some o =>
   rw[hf] at hs
   cases o with
   | none =>
     cases hs;simp only[oV,zOW,zOU,zRW,zOV]
   | some i =>
     simp only at hs ⊢;split at hs
     ·rename_i p hp
      cases hb:Instr.sameBits 10000 p.1 kv with
      | false=>rw[hb] at hs;cases hs
      | true =>
        rw[hb] at hs;cases hs;simp only[gP,hp,zOM,hb,cond_true];rw[qBK es i kv xv (fun e=>{ e with key:=kv,val:=xv }) (fun _ _=>rfl),zP1]
     ·cases hs
def zDE (P:Program)(kt:TypeId)(t:Ty)(k z:Value)(es:List (Value×Value)):Option (List (Value×Value)×Nat×t.sem):=match uI P kt k (xH 0 es) with
 | some (some i)=>(match es[i]? with
   | some p=>cond (Instr.sameBits 10000 p.1 k&&q8O i (uI P kt k (xH 0 (es.set i (k,p.2))))) (match t.ofV p.2 with
     | some x=>some (es.set i (k,p.2),i,x)
     | none=>none) none
   | none=>none)
 | some none=>cond (q8O es.length (uI P kt k (xH 0 (es++[(k,z)])))) (match t.ofV z with
   | some x=>some (es++[(k,z)],es.length,x)
   | none=>none) none
 | none=>none
def qCI (P:Program)(t:TypeId)(m kx:SV)(h:SH)(K:SV->SH->zEP R):zEP R:=match P.underlying t,smp m h,aR kx with
 | some (.map kt et),some (k,es),some kv=>(match qBA P 8 et,wZ P et with
   | some vt,some z=>cond (spec P 1000000001&&zW z) (.bind (zDE P kt vt kv z es) fun q=>K (.tup [q2N vt q.2.2,.d (.int .i64) (q.2.1:Int)]) (h.put k fun v=>.spc v (.map q.1))) .fail
   | _,_=>.fail)
 | _,_,_=>.fail
theorem qJ8 {t:TypeId}{m kx:SV}{K:SV->SH->zEP R}(ho:OkH P h)(e:(qCI P t m kx h K).run=some r) :
 ∃ v h',kH P t m.enc kx.enc (qC h.l)=some (v.enc,qC h'.l)∧Post P h h' v∧(K v h').run=some r:=by
 unfold qCI at e;split at e
 case h_2=>cases e
 rename_i kt et k es kv hu hm hkv;split at e
 case h_2=>cases e
 rename_i vt z hvt hz;obtain⟨c,e1⟩:=qE e;rw[zN8] at c;obtain⟨q,hs,e2⟩:=run_bind e1;obtain⟨h1,w,h2⟩:=qZS c.1 hm;obtain⟨p1,p2,p3⟩:=bF (es':=q.1) ho h2;refine⟨_,_,?_,⟨p1,p2,?_⟩,e2⟩
 ·unfold kH;rw[hu,h1,wO hkv,p3];unfold zDE at hs
  cases hf:uI P kt kv (xH 0 es) with
  | none=>rw[hf] at hs;cases hs
  | some o =>
    rw[hf] at hs
    cases o with
    | none =>
      simp only at hs ⊢;obtain⟨hat,hs⟩:=yP hs;split at hs
      ·rename_i x hx;cases hs
       have hat':q8O (xH 0 es).length (uI P kt kv (xH 0 es++[⟨kv,z,es.length⟩]))=true:=by
        rw[oV,zOV] at hat;rw[qDE];exact hat
       simp only[hf,hz,c.2,hat',zO5,cond_true,oV,zOW,zOU,zRW,zOV,SV.enc,qB,sH hx,Ty.fv,fvv]
      ·cases hs
    | some i =>
      simp only at hs ⊢;split at hs
      ·rename_i p hp;obtain⟨hb',hs⟩:=yP hs;rw[zN8] at hb';obtain⟨hb,hat⟩:=hb'
       ·split at hs
        ·rename_i x hx;cases hs;rw[qBK es i kv p.2 (fun e=>{ e with key:=kv }) (fun p' hp'=>by rw[hp] at hp';cases hp';rfl)] at hat;simp only[hf,gP,hp,zOM,hb,hat,zO5,cond_true,SV.enc,qB,sH hx,Ty.fv,fvv,zOV];rw[qBK es i kv p.2 (fun e=>{ e with key:=kv }) (fun p' hp'=>by rw[hp] at hp';cases hp';rfl),zP1]
        ·cases hs
      ·cases hs
 ·simp only[SV.ok,okL,and_true];exact qC7 _ _
def qO8 (P:Program)(k:Nat)(h:SH)(K:SV->SH->zEP R):zEP R:=cond (spec P 1000000001) (K (.mp k) (h.new k fun v=>.spc v (.map []))) .fail
theorem qNV {k:Nat}{K:SV->SH->zEP R}(ho:OkH P h)(e:(qO8 P k h K).run=some r):∃ v h',cO P k (qC h.l)=some (v.enc,qC h'.l)∧Post P h h' v∧(K v h').run=some r:=by
 obtain⟨c,e1⟩:=qE e;have hp:=xI (k:=k) (f:=fun v=>.spc v (.map [])) ho rfl;refine⟨_,_,?_,⟨hp.1,hp.2,by simp[SV.ok]⟩,e1⟩;unfold cO;rw[c];simp only[cond_true,qDH,SV.enc];rfl
def q7Y (P:Program)(ts:Array TypeId)(x:SV)(h:SH):Option SV:=match smp x h with
 | some (_,es)=>cond (spec P 1000000001&&zAK P ts) (some (.d (.int .i64) ((List.length es:Nat):Int))) none
 | none=>none
theorem q0Z {ts:Array TypeId}{x v:SV}(e:q7Y P ts x h=some v):qDW P ts x.enc (qC h.l)=some v.enc∧v.ok h:=by
 unfold q7Y at e;split at e
 case h_2=>cases e
 rename_i k es hm
 cases hc:(spec P 1000000001&&zAK P ts) with
 | false=>rw[hc] at e;cases e
 | true =>
   rw[hc] at e;cases e;rw[zN8] at hc;refine⟨?_,by simp[SV.ok]⟩;unfold smp at hm;split at hm
   case h_2=>cases hm
   rename_i k';split at hm
   case h_2=>cases hm
   rename_i w es' hk;cases hm
   have h1:sW P (SV.enc (.mp k)) (qC h.l)=some (kS es.length (xH 0 es)):=by
    simp only[SV.enc,sW,zL hk];show cond (!false&&(spec P 1000000001&&Nat.beq 1000000001 1000000001)) (some (kS es.length (xH 0 es))) none=_;rw[hc.1];rfl
   unfold qDW;rw[h1];simp only[hc.2,cond_true,kJ,qDE];have:(3*es.length+1) / 3=es.length:=by omega
   rw[this];simp[SV.enc,Ty.fv,fvv]
omit [Yl] in
theorem qI5 {p:Value->Bool}:∀ {a b:List Value},jH p a=true->jH p b=true->jH p (a++b)=true
 | [],_,_,h=>h
 | x::a,b,h,h2=>by
   rw[zQE,xS,zN8];rw[xS,zN8] at h;exact⟨h.1,qI5 h.2 h2⟩
omit [Yl] in
theorem bZ (n:Nat):∀ {t:Ty} {l l':List Value} {x:t.sem},t.vals l=some (x,l')->∃ us,l=us++l'∧jH (xU (n+1)) us=true
 | .int k,l,l',x,e=>by
   cases l with
   | nil=>cases e
   | cons v l =>
     cases v <;> try (cases e;done)
     rename_i k' y;have e:cond (decide (k'=k)) (some ((y:Int),l)) none=some (x,l'):=e
     cases hk:decide (k'=k) with
     | false=>rw[hk] at e;cases e
     | true =>
       rw[hk] at e;cases e;exact⟨[.int k' x],rfl,rfl⟩
 | .bool,l,l',x,e=>by
   cases l with
   | nil=>cases e
   | cons v l =>
     cases v <;> try (cases e;done)
     cases e;exact⟨[.bool x],rfl,rfl⟩
 | .str,l,l',x,e=>by
   cases l with
   | nil=>cases e
   | cons v l =>
     cases v <;> try (cases e;done)
     cases e;exact⟨[.string x],rfl,rfl⟩
 | .unit,l,l',x,e=>by
   have e:some ((),l)=some ((),l'):=by cases l <;> exact e
   cases e;exact⟨[],rfl,rfl⟩
 | .list _ _,l,l',x,e=>by cases l <;> cases e
 | .raw,l,l',x,e=>by cases l <;> cases e
 | .ol _ _,l,l',x,e=>by cases l <;> cases e
 | .nif,l,l',x,e=>by cases l <;> cases e
 | .pair a b,l,l',x,e=>by
   have e:(match a.vals l with
    | some (x,l1)=>(match b.vals l1 with
      | some (y,l2)=>some ((x,y),l2)
      | none=>none)
    | none=>none)=some (x,l'):=by cases l <;> exact e
   split at e
   ·rename_i x1 l1 h1;split at e
    ·rename_i y l2 h2;cases e;obtain⟨us,rfl,u1⟩:=bZ n h1;obtain⟨ws,rfl,w1⟩:=bZ n h2;exact⟨us++ws,by rw[zO8],qI5 u1 w1⟩
    ·cases e
   ·cases e
omit [Yl] in
theorem qWE {t:Ty}{v:Value}{x:t.sem}(e:t.ofV v=some x):zW v=true:=by
 unfold Ty.ofV at e
 cases ht:t.one with
 | true =>
   rw[ht] at e;simp only[cond_true] at e;split at e
   ·rename_i y hy;obtain⟨us,h1,h2⟩:=bZ 2 hy;rw[zP7] at h1;subst h1;rw[xS,zN8] at h2;exact h2.1
   ·cases e
 | false =>
   rw[ht] at e;simp only[cond_false] at e;split at e
   ·rename_i a;split at e
    ·rename_i y hy;obtain⟨us,h1,h2⟩:=bZ 1 hy;rw[zP7] at h1;show jH (xU 2) a.toList=true;rw[h1];exact h2
    ·cases e
   ·cases e
omit [Yl] in
theorem qEV:∀ (n:Nat) (es:List (Value×Value)) (i:Nat),(xH n es).find? (·.born==n+i)=(es[i]?).map fun p=>(⟨p.1,p.2,n+i⟩:MapEntry)
 | n,[],i=>by simp[xH]
 | n,p::es,0=>by simp[xH]
 | n,p::es,i+1=>by
   have h:((⟨p.1,p.2,n⟩:MapEntry).born==n+(i+1))=false:=by simp
   have ih:=qEV (n+1) es i;have e:n+1+i=n+(i+1):=by omega
   rw[e] at ih;show List.find? (fun x=>x.born==n+(i+1)) ((⟨p.1,p.2,n⟩:MapEntry)::xH (n+1) es)=_;rw[List.find?_cons,h,ih];simp
def q3R (kt vt:Ty)(i:Nat)(es:List (Value×Value)):Option (kt.sem×vt.sem):=match es[i]? with
 | some p=>(match kt.ofV p.1,vt.ofV p.2 with
   | some x,some y=>some (x,y)
   | _,_=>none)
 | none=>none
def qVI (P:Program)(x:SV)(h:SH)(K:SV->SH->zEP R):zEP R:=match x with
 | .ref k off w=>(match slk k h.l with
   | some (.spc _ (.mit t j since (last+1) _))=>(match P.underlying t,smp (.mp j) h with
     | some (.map kt vt),some (_,es)=>(match qBA P 8 kt,qBA P 8 vt with
       | some kT,some vT=>cond (spec P 1000000001&&(spec P 1000000002&&(Nat.beq w 4&&(Nat.beq off 0&&Nat.beq (List.length es) since)))) (.bind (q3R kT vT last es) fun p=>K (.tup [q2N kT p.1,q2N vT p.2]) h) .fail
       | _,_=>.fail)
     | _,_=>.fail)
   | _=>.fail)
 | _=>.fail
theorem qX2 {x:SV}{K:SV->SH->zEP R}(ho:OkH P h)(e:(qVI P x h K).run=some r):∃ v,qLM P x.enc (qC h.l)=some v.enc∧v.ok h∧(K v h).run=some r:=by
 unfold qVI at e;split at e
 case h_2=>cases e
 rename_i k off w;split at e
 case h_2=>cases e
 rename_i w0 t j since last seen hk;split at e
 case h_2=>cases e
 rename_i kt vt j2 es hu hs;split at e
 case h_2=>cases e
 rename_i kT vT hkT hvT;obtain⟨c,e1⟩:=qE e;simp only[zN8] at c;obtain⟨c1,c2,c3,c4,c5⟩:=c;obtain⟨q,hq,e2⟩:=run_bind e1;obtain⟨h1,_⟩:=qZS c1 hs;unfold q3R at hq;split at hq
 case h_2=>cases hq
 rename_i p hp;split at hq
 case h_2=>cases hq
 rename_i x1 y1 hx1 hy1;cases hq;refine⟨_,?_,?_,e2⟩
 ·have e3:=zN9 c3;have e4:=zN9 c4;subst e3 e4;simp only[SV.enc,qLM,zL hk]
  show cond (spec P 1000000002&&(Nat.beq 1000000002 1000000002&&(Nat.beq 4 4&&Nat.beq 0 0))) (match gN P (.mp j) (qC h.l) with
   | some (_,_,c,es)=>cond (Nat.beq c (since:Int).toNat&&Nat.ble 1 ((last+1:Nat):Int).toNat) (match es.find? (·.born==((last+1:Nat):Int).toNat - 1) with
     | some e=>cond (zW e.key) (some (PV.tup [ofC e.key,ofC e.val])) none
     | none=>none) none
   | none=>none) none=_
  have h1:gN P (.mp j) (qC h.l)=some (j2,(SpO.map es).enc,es.length,xH 0 es):=h1;rw[h1,c2];have hl:((last+1:Nat):Int).toNat=last+1:=rfl;have hsi:((since:Nat):Int).toNat=since:=rfl;have hf:=qEV 0 es last;simp only[zOV] at hf;rw[hl,hsi];simp only[Nat.add_sub_cancel,hf,hp,c5,zOM];rw[show Nat.ble 1 (last+1)=true from zOR (by omega),show (Nat.beq 1000000002 1000000002)=true from rfl,show (Nat.beq 4 4)=true from rfl,show (Nat.beq 0 0)=true from rfl];simp only[zO5,cond_true,qWE hx1,sH hx1,sH hy1,qB]
 ·simp only[SV.ok,okL];exact⟨qC7 _ _,qC7 _ _,trivial⟩
end
end Go.Sv
namespace Go.Sv
open Go.Idl
variable {a:Int}{b:Bool}{env:List SV}{k:IntKind}{o:Oper}{op:BinOp}{ph:PHp}{s:ByteArray}{t t2 ty:TypeId}{ts:Array TypeId}{x y:SV}
noncomputable section
variable [Gc]
variable [Yl]
variable {P:Program}{h:SH}{R:Type}{r:R}
def q8C (k:IntKind):PV->Option Int
 | .f (.v (.int k' x))=>cond (decide (k'=k)) (some x) none
 | _=>none
def q67:PV->Option Bool
 | .f (.v (.bool x))=>some x
 | _=>none
def q5I:PV->Option ByteArray
 | .f (.v (.string x))=>some x
 | _=>none
def Ty.zK6:(t:Ty)->PV->Option t.sem
 | .int k,p=>q8C k p
 | .bool,p=>q67 p
 | .str,p=>q5I p
 | .raw,_=>none
 | .ol _ _,_=>none
 | .nif,_=>none
 | .unit,_=>none
 | .list _ _,_=>none
 | .pair _ _,_=>none
omit [Yl] in
theorem q4X:∀ {t:Ty} {p:PV} {x:t.sem},t.zK6 p=some x->p=.f (t.fv x)
 | .int k,p,x,e=>by
   have e1:q8C k p=some x:=e;clear e;unfold q8C at e1;split at e1
   ·rename_i k' y;have e:=e1;clear e1
    cases hk:decide (k'=k) with
    | false=>rw[hk] at e;cases e
    | true =>
      rw[hk] at e;cases e;have:k'=k:=by simpa using hk
      subst this;rfl
   ·cases e1
 | .bool,p,x,e=>by
   have e1:q67 p=some x:=e;clear e;unfold q67 at e1;split at e1
   ·cases e1;rfl
   ·cases e1
 | .str,p,x,e=>by
   have e1:q5I p=some x:=e;clear e;unfold q5I at e1;split at e1
   ·cases e1;rfl
   ·cases e1
 | .unit,_,_,e=>by cases e
 | .list _ _,_,_,e=>by cases e
 | .pair _ _,_,_,e=>by cases e
 | .raw,_,_,e=>by cases e
 | .ol _ _,_,_,e=>by cases e
 | .nif,_,_,e=>by cases e
def Ty.zIJ (t:Ty)(o:Option PV):Option t.sem:=o.bind t.zK6
theorem qQW {t:Ty}{o:Option PV}{x:t.sem}(e:t.zIJ o=some x):o=some (SV.d t x).enc:=by
 obtain⟨p,h1,h2⟩:=zQD.1 e;rw[h1,q4X h2];simp[SV.enc]
def sint (op:BinOp)(k:IntKind)(a b:Int)(K:SV->zEP R)(F:zEP R):zEP R:=match op with
 | .lss=>K (.d .bool (decide (a < b)))
 | .leq=>K (.d .bool (decide (a<=b)))
 | .gtr=>K (.d .bool (decide (b < a)))
 | .geq=>K (.d .bool (decide (b<=a)))
 | .eql=>K (.d .bool (a==b))
 | .neq=>K (.d .bool (a != b))
 | .add=>K (.d (.int k) (k.wrap (a+b)))
 | .sub=>K (.d (.int k) (k.wrap (a - b)))
 | .mul=>K (.d (.int k) (k.wrap (a*b)))
 | .quo=>.bind (q73 k a b) fun c=>K (.d (.int k) c)
 | .rem=>.bind (zBD a b) fun c=>K (.d (.int k) c)
 | _=>F
omit [Yl] in
theorem q6T {x y:PV}{a b:Value}(hx:pl x=some a)(hy:pl y=some b):uG P op t t2 x y ph=uG P op t t2 (fvv a) (fvv b) []:=by
 unfold uG;rw[hx,hy];rfl
def qR7 (P:Program)(op:BinOp)(t t2 ty:TypeId)(x y:SV)(K:SV->zEP R):zEP R:=match aR x,aR y,qBA P 8 ty with
 | some a,some b,some u=>.bind (u.zIJ (uG P op t t2 (fvv a) (fvv b) [])) fun z=>K (.d u z)
 | _,_,_=>.fail
def zCW (P:Program)(t:TypeId)(x y:SV)(h:SH):Option Bool:=match y with
 | .c (.slice none _ _)=>cond (zP P t).isSome (match x with
   | .own k g n=>(match slk k h.l with
     | some (.list _ gr g' _ _ _)=>cond (Nat.beq g g') (some (gr&&Nat.beq n 0)) none
     | _=>none)
   | .sl k g n _ _=>(match slk k h.l with
     | some (.list _ gr g' _ _ _)=>cond (Nat.beq g g') (some (gr&&Nat.beq n 0)) none
     | _=>none)
   | _=>none) none
 | .c .nilFunc=>cond (qYT P t) (match x with
   | .fn _ _ _=>some false
   | _=>none) none
 | _=>none
theorem qT1 (ho:OkH P h)(hx:x.ok h)(e:zCW P t x y h=some b):qET P t x.enc y.enc (qC h.l)=some b∧pl x.enc=none:=by
 unfold zCW at e;split at e
 ·rename_i n c
  cases h1:(zP P t).isSome with
  | false=>rw[h1] at e;cases e
  | true =>
    rw[h1] at e;simp only[cond_true] at e;split at e
    ·rename_i k g n;split at e
     ·rename_i el gr g' w u xs hk
      cases h2:Nat.beq g g' with
      | false=>rw[h2] at e;cases e
      | true =>
        rw[h2] at e;cases e;have hg:g=g':=zN9 h2;subst hg;simp only[SV.ok] at hx;have hn:=hx.2 _ _ _ _ _ hk;have hl:=ho.list _ _ _ _ _ _ _ hk;refine⟨?_,by simp[SV.enc,pl]⟩;simp only[SV.enc,fvv,qET,h1,cond_true,isNil,zL hk];rw[show (SO.list el gr g w u xs).enc.el=el from rfl,hl.2.1];simp only[qU,hn,aC,cond_true];rfl
     ·cases e
    ·rename_i k g n o m;split at e
     ·rename_i el gr g' w u xs hk
      cases h2:Nat.beq g g' with
      | false=>rw[h2] at e;cases e
      | true =>
        rw[h2] at e;cases e;have hg:g=g':=zN9 h2;subst hg;simp only[SV.ok] at hx;have hn:=hx.1.2 _ _ _ _ _ hk;have hl:=ho.list _ _ _ _ _ _ _ hk;refine⟨?_,by simp[SV.enc,pl]⟩;simp only[SV.enc,fvv,qET,h1,cond_true,isNil,zL hk];rw[show (SO.list el gr g w u xs).enc.el=el from rfl,hl.2.1];simp only[qU,hn,aC,cond_true];rfl
     ·cases e
    ·cases e
 ·cases h1:qYT P t with
  | false=>rw[h1] at e;cases e
  | true =>
    rw[h1] at e;simp only[cond_true] at e;split at e
    ·cases e;exact⟨by simp[SV.enc,fvv,qET,h1,qPR],by simp[SV.enc,pl]⟩
    ·cases e
 ·cases e
def q6C (P:Program)(t:TypeId)(x y:SV):Option Bool:=match x,y with
 | .d (.ol _ _) xs,.c (.slice none 0 0)=>cond (zP P t).isSome (some (List.isEmpty xs)) none
 | _,_=>none
theorem qO7 (e:q6C P t x y=some b):uG P .eql t t2 x.enc y.enc ph=some (fvv (.bool b))∧uG P .neq t t2 x.enc y.enc ph=some (fvv (.bool !b)):=by
 unfold q6C at e;split at e
 ·rename_i el k xs
  cases h1:(zP P t).isSome with
  | false=>rw[h1] at e;cases e
  | true =>
    rw[h1] at e;cases e
    cases xs with
    | nil =>
      have hn:qET P t (fvv (.slice none 0 0)) (fvv (.slice none 0 0)) ph=some true:=by simp only[qET,fvv,h1,cond_true,isNil]
      have hv:∀ H,VR P (fun _=>True) H (own (fun _=>0) ph) (fvv (.slice none 0 0)) (.slice none 0 0):=fun H=>.f (.v rfl rfl)
      constructor
      ·have:=(qFX (op:=.eql) (o:=cop (.binOp .eql t (.const (.slice none 0 0)) (.const (.slice none 0 0)) t2)) (env:=[]) (hv H00) (hv H00) hn).1;simp only[SV.enc,Ty.fv,fvo];show uG P .eql t t2 (fvv (.slice none 0 0)) (fvv (.slice none 0 0)) ph=_;unfold uG;rw[show pl (fvv (.slice none 0 0))=some (.slice none 0 0) from rfl];simp only[this];rfl
      ·have:=(qFX (op:=.neq) (o:=cop (.binOp .neq t (.const (.slice none 0 0)) (.const (.slice none 0 0)) t2)) (env:=[]) (hv H00) (hv H00) hn).2;simp only[SV.enc,Ty.fv,fvo];show uG P .neq t t2 (fvv (.slice none 0 0)) (fvv (.slice none 0 0)) ph=_;unfold uG;rw[show pl (fvv (.slice none 0 0))=some (.slice none 0 0) from rfl];simp only[this];rfl
    | cons x xs =>
      have hn:qET P t (.f (fvo el k (x::xs))) (fvv (.slice none 0 0)) ph=some false:=by
       simp only[qET,fvv,h1,cond_true,fvo,zO1,zQE,isNil]
      constructor
      ·simp only[SV.enc,Ty.fv];show uX P t (.f (fvo el k (x::xs))) (fvv (.slice none 0 0)) ph _=_;unfold uX;rw[hn];rfl
      ·simp only[SV.enc,Ty.fv];show uX P t (.f (fvo el k (x::xs))) (fvv (.slice none 0 0)) ph _=_;unfold uX;rw[hn];rfl
 ·cases e
def q6S (P:Program)(t:TypeId)(x y:SV):Option Bool:=match x,y with
 | .d (.list _ u) xs,.c (.slice none 0 0)=>cond ((zP P t).isSome&&Nat.blt 0 u.w) (some (List.isEmpty xs)) none
 | _,_=>none
theorem qAY (e:q6S P t x y=some b) :
 (b=true->uG P .eql t t2 x.enc y.enc ph=some .bq∧uG P .neq t t2 x.enc y.enc ph=some .bq)∧(b=false->uG P .eql t t2 x.enc y.enc ph=some (fvv (.bool false))∧uG P .neq t t2 x.enc y.enc ph=some (fvv (.bool true))):=by
 unfold q6S at e;split at e
 case h_2=>cases e
 rename_i el u xs
 cases h1:((zP P t).isSome&&Nat.blt 0 u.w) with
 | false=>rw[h1] at e;cases e
 | true =>
   rw[h1] at e;cases e;rw[zN8] at h1;obtain⟨h1,h2⟩:=h1;have h2:0 < u.w:=zOH h2
   cases xs with
   | nil =>
     have hq:qSW P t (.f (.l el 0 [])) (fvv (.slice none 0 0))=some .bq:=by simp only[qSW,fvv,h1,cond_true]
     have hn:qET P t (.f (.l el 0 [])) (fvv (.slice none 0 0)) ph=none:=by simp only[qET,fvv,h1,cond_true,isNil]
     refine⟨fun _=>?_,fun h=>(by cases h)⟩;simp only[SV.enc,Ty.fv,List.flatMap_nil,zRW];constructor
     ·show uX P t (.f (.l el 0 [])) (fvv (.slice none 0 0)) ph _=_;unfold uX;rw[hn];exact hq
     ·show uX P t (.f (.l el 0 [])) (fvv (.slice none 0 0)) ph _=_;unfold uX;rw[hn];exact hq
   | cons x xs =>
     refine⟨fun h=>(by cases h),fun _=>?_⟩
     obtain⟨c,cs,hcs⟩:∃ c cs,List.flatMap u.cells (x::xs)=c::cs:=by
      cases hf:List.flatMap u.cells (x::xs) with
      | nil =>
        have:=congrArg List.length hf;rw[zV,zOU,zQ2] at this;simp at this;omega
      | cons c cs=>exact⟨c,cs,rfl⟩
     have hn:qET P t (.f (.l el (xs.length+1) (c::cs))) (fvv (.slice none 0 0)) ph=some false:=by simp only[qET,fvv,h1,cond_true,isNil]
     simp only[SV.enc,Ty.fv,hcs,zOU];constructor
     ·show uX P t (.f (.l el (xs.length+1) (c::cs))) (fvv (.slice none 0 0)) ph _=_;unfold uX;rw[hn]
     ·show uX P t (.f (.l el (xs.length+1) (c::cs))) (fvv (.slice none 0 0)) ph _=_;unfold uX;rw[hn];rfl
def q6K (P:Program)(op:BinOp)(t t2 ty:TypeId)(x y:SV)(h:SH)(K:SV->zEP R):zEP R:=match zCW P t x y h,op with
 | some b,.eql=>K (.d .bool b)
 | some b,.neq=>K (.d .bool (!b))
 | _,_=>qR7 P op t t2 ty x y K
def q56 (P:Program)(op:BinOp)(t t2 ty:TypeId)(x y:SV)(h:SH)(K:SV->zEP R):zEP R:=match q6S P t x y,op with
 | some b,.eql=>.ite b (K .bq) (K (.d .bool false))
 | some b,.neq=>.ite b (K .bq) (K (.d .bool true))
 | _,_=>q6K P op t t2 ty x y h K
def zCU (P:Program)(op:BinOp)(t t2 ty:TypeId)(x y:SV)(h:SH)(K:SV->zEP R):zEP R:=match asI x,asI y with
 | some (k,a),some (k',b)=>cond (decide (k=k')) (sint op k a b K (qR7 P op t t2 ty x y K)) (qR7 P op t t2 ty x y K)
 | _,_=>(match asS x,asS y with
   | some a,some b=>zDW op a b K (qR7 P op t t2 ty x y K)
   | _,_=>(match q6C P t x y,op with
     | some b,.eql=>K (.d .bool b)
     | some b,.neq=>K (.d .bool (!b))
     | _,_=>q56 P op t t2 ty x y h K))
theorem qAG {K:SV->zEP R}(e:(qR7 P op t t2 ty x y K).run=some r):∃ v,uG P op t t2 x.enc y.enc (qC h.l)=some v.enc∧v.ok h∧(K v).run=some r:=by
 unfold qR7 at e;split at e
 ·rename_i a b u ha hb hu;obtain⟨z,hz,e1⟩:=run_bind e;refine⟨_,?_,by simp[SV.ok],e1⟩;rw[q6T (wO ha) (wO hb)];exact qQW hz
 ·cases e
theorem qZ7 {K:SV->zEP R}(ho:OkH P h)(hx:x.ok h)(e:(q6K P op t t2 ty x y h K).run=some r):∃ v,uG P op t t2 x.enc y.enc (qC h.l)=some v.enc∧v.ok h∧(K v).run=some r:=by
 unfold q6K at e;split at e
 ·rename_i b hs;obtain⟨h1,h2⟩:=qT1 ho hx hs;refine⟨_,?_,by simp[SV.ok],e⟩;unfold uG;rw[h2];simp[uX,h1,SV.enc,Ty.fv,fvv]
 ·rename_i b hs;obtain⟨h1,h2⟩:=qT1 ho hx hs;refine⟨_,?_,by simp[SV.ok],e⟩;unfold uG;rw[h2];simp[uX,h1,SV.enc,Ty.fv,fvv]
 ·exact qAG e
theorem q08 {K:SV->zEP R}(ho:OkH P h)(hx:x.ok h)(e:(q56 P op t t2 ty x y h K).run=some r):∃ v,uG P op t t2 x.enc y.enc (qC h.l)=some v.enc∧v.ok h∧(K v).run=some r:=by
 unfold q56 at e;split at e
 ·rename_i b hs
  rcases run_ite e with ⟨z,e1⟩ | ⟨z,e1⟩
  ·exact⟨.bq,by rw[((qAY hs).1 z).1];simp[SV.enc],by simp[SV.ok],e1⟩
  ·exact⟨.d .bool false,by rw[((qAY hs).2 z).1];simp[SV.enc,Ty.fv,fvv],by simp[SV.ok],e1⟩
 ·rename_i b hs
  rcases run_ite e with ⟨z,e1⟩ | ⟨z,e1⟩
  ·exact⟨.bq,by rw[((qAY hs).1 z).2];simp[SV.enc],by simp[SV.ok],e1⟩
  ·exact⟨.d .bool true,by rw[((qAY hs).2 z).2];simp[SV.enc,Ty.fv,fvv],by simp[SV.ok],e1⟩
 ·exact qZ7 ho hx e
theorem q66 {K:SV->zEP R}(ho:OkH P h)(hx:x.ok h)(e:(zCU P op t t2 ty x y h K).run=some r):∃ v,uG P op t t2 x.enc y.enc (qC h.l)=some v.enc∧v.ok h∧(K v).run=some r:=by
 unfold zCU at e;split at e
 ·rename_i k a k' b ha hb
  cases hk:decide (k=k') with
  | false=>rw[hk] at e;exact qAG e
  | true =>
    rw[hk] at e;have hkk:k=k':=by simpa using hk
    subst hkk;simp only[cond_true] at e;have ha':=yB ha;have hb':=yB hb
    have fin:∀ {v:SV},uG P op t t2 (fvv (.int k a)) (fvv (.int k b)) (qC h.l)=some v.enc->v.ok h->(K v).run=some r->∃ v,uG P op t t2 x.enc y.enc (qC h.l)=some v.enc∧v.ok h∧(K v).run=some r:=fun h1 h2 h3=>⟨_,by rw[ha',hb'];exact h1,h2,h3⟩
    unfold sint at e;split at e
    ·exact fin (v:=.d .bool (decide (a < b))) zAE (by simp[SV.ok]) e
    ·exact fin (v:=.d .bool (decide (a<=b))) zAD (by simp[SV.ok]) e
    ·exact fin (v:=.d .bool (decide (b < a))) zAP (by simp[SV.ok]) e
    ·exact fin (v:=.d .bool (decide (b<=a))) q8W (by simp[SV.ok]) e
    ·exact fin (v:=.d .bool (a==b)) q9U (by simp[SV.ok]) e
    ·exact fin (v:=.d .bool (a != b)) q9G (by simp[SV.ok]) e
    ·exact fin (v:=.d (.int k) (k.wrap (a+b))) q9I (by simp[SV.ok]) e
    ·exact fin (v:=.d (.int k) (k.wrap (a - b))) q80 (by simp[SV.ok]) e
    ·exact fin (v:=.d (.int k) (k.wrap (a*b))) q9T (by simp[SV.ok]) e
    ·obtain⟨c,hc,e1⟩:=run_bind e;exact fin (v:=.d (.int k) c) (q93 hc) (by simp[SV.ok]) e1
    ·obtain⟨c,hc,e1⟩:=run_bind e;exact fin (v:=.d (.int k) c) (q98 hc) (by simp[SV.ok]) e1
    ·exact qAG e
 ·split at e
  ·rename_i a b ha hb;have ha':=gX ha;have hb':=gX hb;unfold zDW at e;split at e
   ·rcases run_ite e with ⟨z,e1⟩ | ⟨z,e1⟩
    ·exact⟨.d .str (a++b),by rw[ha',hb',q51 (zOH z)];simp[SV.enc,Ty.fv,fvv],by simp[SV.ok],e1⟩
    ·cases e1
   ·exact⟨.d .bool (a.toList==b.toList),by rw[ha',hb',q5V];simp[SV.enc,Ty.fv,fvv],by simp[SV.ok],e⟩
   ·exact⟨.d .bool (!(a.toList==b.toList)),by rw[ha',hb',q5F];simp[SV.enc,Ty.fv,fvv],by simp[SV.ok],e⟩
   ·exact qAG e
  split at e
  ·rename_i b hs;exact⟨_,by rw[(qO7 hs).1];simp[SV.enc,Ty.fv,fvv],by simp[SV.ok],e⟩
  ·rename_i b hs;exact⟨_,by rw[(qO7 hs).2];simp[SV.enc,Ty.fv,fvv],by simp[SV.ok],e⟩
  exact q08 ho hx e
def qUW (P:Program)(mk:Operand->Op)(ty:TypeId)(x:SV)(K:SV->zEP R):zEP R:=match qEM x,qBA P 8 ty with
 | some a,some u=>.bind (u.zIJ (bO P mk (fvv a))) fun z=>K (.d u z)
 | _,_=>.fail
theorem qPQ {mk:Operand->Op}{K:SV->zEP R}(e:(qUW P mk ty x K).run=some r):∃ v,bO P mk x.enc=some v.enc∧v.ok h∧(K v).run=some r∧∃ a,qEM x=some a:=by
 unfold qUW at e;split at e
 ·rename_i a u ha hu;obtain⟨z,hz,e1⟩:=run_bind e;exact⟨_,by rw[sJ ha];exact qQW hz,by simp[SV.ok],e1,a,ha⟩
 ·cases e
def sun (P:Program)(op:UnOp)(t ty:TypeId)(x:SV)(K:SV->zEP R):zEP R:=match op,asI x,asB x with
 | .neg,some (k,a),_=>K (.d (.int k) (k.wrap (0 - a)))
 | .not,_,some b=>K (.d .bool (!b))
 | _,_,_=>qUW P (fun a=>.unOp op t a) ty x K
omit [Yl] in
theorem q7S {x:Int}:bO P (fun a=>.unOp .neg t a) (fvv (.int k x))=some (fvv (.int k (k.wrap (0 - x)))):=rfl
theorem zA8 {op:UnOp}{K:SV->zEP R}(e:(sun P op t ty x K).run=some r):∃ v,bO P (fun a=>.unOp op t a) x.enc=some v.enc∧v.ok h∧(K v).run=some r:=by
 unfold sun at e;split at e
 ·rename_i k a ha;exact⟨_,by rw[yB ha,q7S];simp[SV.enc,Ty.fv,fvv],by simp[SV.ok],e⟩
 ·rename_i b hb;exact⟨_,by rw[sD hb,zA1];simp[SV.enc,Ty.fv,fvv],by simp[SV.ok],e⟩
 ·obtain⟨v,h1,h2,h3,_⟩:=qPQ (h:=h) e;exact⟨v,h1,h2,h3⟩
def eH (env:List SV)(l:Array Operand):List SV:=l.toList.map (kD env)
theorem gM (env:List SV)(l:Array Operand):l.toList.map (qK (qB env))=qB (eH env l):=by
 unfold eH;rw[zF (l.toList.map (kD env)),zQJ];exact zPW fun x _=>qO env x
omit [Yl] in
theorem fM (ho:okL h env)(l:Array Operand):okL h (eH env l):=zI.2 fun x hx=>by
 obtain⟨q,_,rfl⟩:=zOZ.1 hx;exact mW ho _
def smm (lo:Bool)(x y:SV)(K:SV->zEP R):zEP R:=match asI x,asI y with
 | some (k,a),some (k',b)=>cond (decide (k=k')) (K (.d (.int k) (cond lo (cond (decide (b < a)) b a) (cond (decide (a < b)) b a)))) .fail
 | _,_=>.fail
omit [Yl] in
theorem dmin {x y:Operand}{b:Int}{env:Env}(hx:env.val x=.int k a)(hy:env.val y=.int k b) :
 qY3 (jK P (cop (.call ⟨.builtin .min,#[x,y],ts⟩) ty) env H00)=some (fvv (.int k (if b < a then b else a))):=by
 have h2:kY env.val (cop (.call ⟨.builtin .min,#[x,y],ts⟩) ty).op.operands.toList=[env.val x,env.val y]:=rfl;unfold jK;rw[h2];simp only[cop,execOp,resolve,List.map_toArray,zOQ,zQK,hx,hy];rfl
omit [Yl] in
theorem dmax {x y:Operand}{b:Int}{env:Env}(hx:env.val x=.int k a)(hy:env.val y=.int k b) :
 qY3 (jK P (cop (.call ⟨.builtin .max,#[x,y],ts⟩) ty) env H00)=some (fvv (.int k (if a < b then b else a))):=by
 have h2:kY env.val (cop (.call ⟨.builtin .max,#[x,y],ts⟩) ty).op.operands.toList=[env.val x,env.val y]:=rfl;unfold jK;rw[h2];simp only[cop,execOp,resolve,List.map_toArray,zOQ,zQK,hx,hy];rfl
omit [Yl] in
theorem qWV {p:Prop}[Decidable p]{α:Type}{x y:α}:cond (decide p) x y=if p then x else y:=by
 by_cases h:p <;> simp[h]
theorem q4Q {lo:Bool}{c:Call}{K:SV->zEP R}(hl:eH env c.args=[x,y])(hc:c.callee=.builtin (cond lo .min .max))(e:(smm lo x y K).run=some r) :
 ∃ v,wD P (cond lo .min .max) c [x.enc,y.enc] (qB env) ty (qC h.l)=some (v.enc,qC h.l)∧v.ok h∧(K v).run=some r:=by
 unfold smm at e;split at e
 ·rename_i k a k' b ha hb
  cases hk:decide (k=k') with
  | false=>rw[hk] at e;cases e
  | true =>
    rw[hk] at e;have:k=k':=by simpa using hk
    subst this;have e1:=yB ha;have e2:=yB hb;refine⟨_,?_,by simp[SV.ok],e⟩;obtain⟨cal,args,ts⟩:=c;simp only at hc hl;subst hc;unfold eH at hl
    have hal:∃ p q,args=#[p,q]∧kD env p=x∧kD env q=y:=by
     obtain⟨l⟩:=args
     match l,hl with
     | [p,q],hl=>simp at hl;exact⟨p,q,rfl,hl.1,hl.2⟩
    obtain⟨p,q,rfl,hp,hq⟩:=hal;have vp:(qSK (qB env)).val p=.int k a:=cB P (by rw[qO,hp,e1];rfl);have vq:(qSK (qB env)).val q=.int k b:=cB P (by rw[qO,hq,e2];rfl);unfold wD;rw[e1,e2];have hpl:plL [fvv (.int k a),fvv (.int k b)]=some [.int k a,.int k b]:=rfl;rw[hpl]
    cases lo with
    | true =>
      simp only[cond_true];rw[dmin vp vq,qWV];simp[pp1,SV.enc,Ty.fv,fvv]
    | false =>
      simp only[cond_false];rw[dmax vp vq,qWV];simp[pp1,SV.enc,Ty.fv,fvv]
 ·cases e
def q61 (P:Program)(ts:Array TypeId)(x:SV)(h:SH):Option SV:=match sW P x.enc (qC h.l) with
 | some _=>none
 | none=>zCO P ts x h
theorem q0J {v:SV}(ho:OkH P h)(hx:x.ok h)(e:q61 P ts x h=some v):qDW P ts x.enc (qC h.l)=some v.enc∧v.ok h:=by
 unfold q61 at e;split at e
 ·cases e
 ·rename_i hn;unfold qDW;rw[hn];exact q79 ho hx e
theorem qRQ {lo hi:Option Operand}{K:SV->zEP R}(e:(qYX P t s (lo.map (kD env)) (hi.map (kD env)) K).run=some r) :
 ∃ v,qNH P (.slice t (.const (.string s)) (lo.map fun a=>.const ((pl (qK (qB env) a)).getD undef)) (hi.map fun a=>.const ((pl (qK (qB env) a)).getD undef)) none)=some v.enc∧v.ok h∧(K v).run=some r∧(plL ((lo.toList++hi.toList).map (qK (qB env)))).isSome=true:=by
 obtain⟨c,e1⟩:=qE e;obtain⟨b,hb,_,e2⟩:=vW e1;obtain⟨a,ha,_,e3⟩:=vW e2;have m:∀ o:Option Operand,(o.map (kD env)).map SV.enc=o.map (qK (qB env)):=fun o=>by cases o <;> simp[qO]
 rw[m] at hb ha;refine⟨.d .str (s.extract a b),by rw[q1M (qE9 c) hb ha];simp[SV.enc,Ty.fv,fvv],by simp[SV.ok],e3,?_⟩
 have one:∀ {o:Option Operand} {d most n:Nat},bnd d most (o.map (qK (qB env)))=some n->o=none∨∃ a k i,o=some a∧qK (qB env) a=fvv (.int k i):=fun {o d most n} h=>by
  rcases qXY h with ⟨q,_⟩ | ⟨k,i,q,_⟩
  ·cases o with
   | none=>exact .inl rfl
   | some a=>cases q
  ·cases o with
   | none=>cases q
   | some a=>exact .inr ⟨a,k,i,rfl,by simpa using q⟩
 rcases one hb with rfl | ⟨x,k,i,rfl,hx⟩ <;> rcases one ha with rfl | ⟨y,k',i',rfl,hy⟩ <;> simp_all [plL,fvv,pl]
theorem qR1 {ix:SV}{K:SV->zEP R}(e:(qNX P t s ix K).run=some r) :
 ∃ v k i,ix.enc=fvv (.int k i)∧qNH P (.index t (.const (.string s)) (.const (.int k i)))=some v.enc∧v.ok h∧(K v).run=some r:=by
 unfold qNX at e;split at e
 ·rename_i k i hi;obtain⟨c,e1⟩:=qE e;obtain⟨b,hb,e2⟩:=run_bind e1;exact⟨.d (.int .u8) b,k,i,yB hi,by rw[q25 (qE9 c) hb];simp[SV.enc,Ty.fv,fvv],by simp[SV.ok],e2⟩
 ·cases e
theorem q2C {s d:TypeId}{K:SV->zEP R}{F:zEP R}(e:(qZY P s d x K F).run=some r):(∃ v,bO P (fun a=>.convert s d a) x.enc=some v.enc∧v.ok h∧(K v).run=some r)∨F.run=some r:=by
 unfold qZY at e;split at e
 ·rename_i u k' hs hd;split at e
  ·rename_i k a ha;exact .inl ⟨_,by rw[yB ha,q6I hs hd];simp[SV.enc,Ty.fv,fvv],by simp[SV.ok],e⟩
  ·exact .inr e
 ·rename_i u hs hd;split at e
  ·rename_i a ha;exact .inl ⟨_,by rw[gX ha,q2I hs hd];simp[SV.enc,Ty.fv,fvv],by simp[SV.ok],e⟩
  ·exact .inr e
 ·exact .inr e
def qIH (env:List SV)(parts:Array (Nat×Operand)):List (Nat×SV):=parts.toList.map fun p=>(p.1,kD env p.2)
theorem qFA (env:List SV)(parts:Array (Nat×Operand)):(parts.toList.map fun p=>(p.1,qK (qB env) p.2))=q8E (qIH env parts):=by
 simp[qIH,q8E,qO]
omit [Yl] in
theorem qKD {env:List SV}(ho:okL h env)(parts:Array (Nat×Operand)):∀ p∈qIH env parts,p.2.ok h:=fun p hp=>by
 obtain⟨q,_,rfl⟩:=zOZ.1 hp;exact mW ho _
def qUS:Operand->Operand->Bool
 | .tmp i,.tmp j=>Nat.beq i j
 | .const (.int k a),.const (.int k' b)=>decide (k=k')&&decide (a=b)
 | _,_=>false
omit [Yl] in
theorem qW5 {a b:Operand}(e:qUS a b=true):a=b:=by
 unfold qUS at e;split at e
 ·rw[zN9 e]
 ·rw[zN8] at e;have h1:=of_decide_eq_true e.1;have h2:=of_decide_eq_true e.2;rw[h1,h2]
 ·cases e
def gv (o:Option SV)(h:SH)(K:SV->SH->zEP R):zEP R:=match o with
 | some v=>K v h
 | none=>.fail
def sop (P:Program)(o:Oper)(env:List SV)(k:Nat)(h:SH)(K:SV->SH->zEP R):zEP R:=match o.op with
 | .move x=>K (kD env x) h
 | .assign x=>K (kD env x) h
 | .pick c a b=>(match asB (kD env c) with
   | some t=>.ite t (K (kD env a) h) (K (kD env b) h)
   | none=>.fail)
 | .alloc el=>qW6 P el k h K
 | .box el x=>zDP P el (kD env x) k h K
 | .build t parts=>gv (qWM P t (qIH env parts)) h K
 | .buildSlice t len parts=>mO P t len (qIH env parts) k h K
 | .load t a=>q5X P t (kD env a) h fun v=>K v h
 | .store t a x=>qTZ P t (kD env a) (kD env x) h K
 | .nilCheck x=>gv (qB1 (kD env x) h) h K
 | .binOp op t x y t2=>zCU P op t t2 o.type (kD env x) (kD env y) h fun v=>K v h
 | .unOp op t x=>sun P op t o.type (kD env x) fun v=>K v h
 | .convert s d x=>cond (qSN (kD env x).enc) .fail (qZY P s d (kD env x) (fun v=>K v h) (qUW P (fun a=>.convert s d a) o.type (kD env x) fun v=>K v h))
 | .makeFunc fn first cap=>gv (qA1 fn (eH env first) (eH env cap)) h K
 | .makeSlice t l c=>cond (qUS l c) (q7W P t (kD env l) k h K) .fail
 | .slice t x lo hi none=>(match asS (kD env x) with
   | some s=>qYX P t s (lo.map (kD env)) (hi.map (kD env)) fun v=>K v h
   | none=>qYD P t (kD env x) (lo.map (kD env)) (hi.map (kD env)) h fun v=>K v h)
 | .fieldAddr t x i=>gv (rW P t (kD env x) i h) h K
 | .indexAddr t x ix=>rD P t (kD env x) (kD env ix) h fun v=>K v h
 | .index t x ix=>(match asS (kD env x) with
   | some s=>qNX P t s (kD env ix) fun v=>K v h
   | none=>qT7 P t (kD env x) (kD env ix) fun v=>K v h)
 | .extract t i=>gv (qHA (kD env t) i) h K
 | .makeMap _ none=>qO8 P k h K
 | .lookup t m kx ok=>qNA P t (kD env m) (kD env kx) ok h fun v=>K v h
 | .mapUpdate t m kx x=>rM P t (kD env m) (kD env kx) (kD env x) h K
 | .mapEntry t m kx=>qCI P t (kD env m) (kD env kx) h K
 | .call c=>(match c.callee,eH env c.args with
   | .builtin .append,[x,y]=>q55 P c.argTypes.toList x y k h K
   | .builtin .copy,[x,y]=>q47 P c.argTypes.toList x y h K
   | .builtin .len,[x]=>cond (qY6 P c.argTypes) (match asS x with
     | some s=>K (.d (.int .i64) (s.size:Int)) h
     | none=>.fail) (match q7Y P c.argTypes x h with
     | some v=>K v h
     | none=>gv (q61 P c.argTypes x h) h K)
   | .builtin .min,[x,y]=>smm true x y fun v=>K v h
   | .builtin .max,[x,y]=>smm false x y fun v=>K v h
   | _,_=>.fail)
 | _=>.fail
omit [Yl] in
theorem qSE {o:Option SV}{K:SV->SH->zEP R}(e:(gv o h K).run=some r):∃ v,o=some v∧(K v h).run=some r:=by
 unfold gv at e;split at e
 ·exact⟨_,rfl,e⟩
 ·cases e
theorem q4D {k:Nat}{K:SV->SH->zEP R}(ho:OkH P h)(he:okL h env)(e:(sop P o env k h K).run=some r) :
 ∃ v h',rO P o (qB env) k (qC h.l)=some (v.enc,qC h'.l)∧Post P h h' v∧(K v h').run=some r:=by
 have same:∀ {v:SV},v.ok h->Post P h h v:=fun hv=>⟨.refl _,ho,hv⟩
 have sv:=fun x=>mW (h:=h) he x
 unfold sop at e;unfold rO;split at e
 ·rename_i x ho';exact⟨_,_,by simp only[ho',qO],same (sv x),e⟩
 ·rename_i x ho';exact⟨_,_,by simp only[ho',qO],same (sv x),e⟩
 ·rename_i c a b ho';split at e
  ·rename_i t ht;have h1:=sD ht
   rcases run_ite e with ⟨z,e1⟩ | ⟨z,e1⟩
   ·exact⟨_,_,by simp only[ho',qO,h1,fvv,z,cond_true],same (sv a),e1⟩
   ·exact⟨_,_,by simp only[ho',qO,h1,fvv,z,cond_false],same (sv b),e1⟩
  ·cases e
 ·rename_i el ho';rw[ho'];exact qYR ho e
 ·rename_i el x ho';rw[ho'];simp only[qO];exact q7Q ho (sv x) e
 ·rename_i t parts ho';rw[ho'];obtain⟨v,h1,h2⟩:=qSE e;have h3:=qU7 (qKD he parts) h1;exact⟨v,h,by simp only[qFA,h3.1,pp1],same h3.2,h2⟩
 ·rename_i t len parts ho';rw[ho'];simp only[qFA];exact qDL ho (qKD he parts) e
 ·rename_i t a ho';rw[ho'];obtain⟨v,h1,h2,h3⟩:=q2S ho (sv a) e;exact⟨v,h,by simp only[qO,h1,pp1],same h2,h3⟩
 ·rename_i t a x ho';rw[ho'];obtain⟨h',h1,h2,h3,h4⟩:=qU3 ho (sv a) (sv x) e;exact⟨_,h',by simp only[qO,h1,ppS];simp[SV.enc,qB],⟨h2,h3,by simp[SV.ok,okL]⟩,h4⟩
 ·rename_i x ho';rw[ho'];obtain⟨v,h1,h2⟩:=qSE e;have h3:=qLI (sv x) h1;exact⟨v,h,by simp only[qO,h3.1,pp1],same h3.2,h2⟩
 ·rename_i op t x y t2 ho';rw[ho'];obtain⟨v,h1,h2,h3⟩:=q66 ho (sv x) e;exact⟨v,h,by simp only[qO,h1,pp1],same h2,h3⟩
 ·rename_i op t x ho';rw[ho'];obtain⟨v,h1,h2,h3⟩:=zA8 (h:=h) e;exact⟨v,h,by simp only[qO,h1,pp1],same h2,h3⟩
 ·rename_i s d x ho';rw[ho']
  cases hp:qSN (kD env x).enc with
  | true=>rw[hp] at e;cases e
  | false =>
    rw[hp] at e;have e1:(qZY P s d (kD env x) (fun v=>K v h) (qUW P (fun a=>.convert s d a) o.type (kD env x) fun v=>K v h)).run=some r:=e;rcases q2C (h:=h) e1 with ⟨v,h1,h2,h3⟩ | e1
    ·exact⟨v,h,by simp only[qO,hp,cond_false,h1,pp1],same h2,h3⟩
    ·obtain⟨v,h1,h2,h3,_⟩:=qPQ (h:=h) e1;exact⟨v,h,by simp only[qO,hp,cond_false,h1,pp1],same h2,h3⟩
 ·rename_i fn first cap ho'
  rw[ho'];obtain⟨v,h1,h2⟩:=qSE e;have h3:=qIV (fM he first) (fM he cap) h1;exact⟨v,h,by simp only[gM,h3.1,pp1],same h3.2,h2⟩
 ·rename_i t l c ho';rw[ho'];obtain⟨h1,h2⟩:=qE e;have:=qW5 h1;subst this;simp only[qO];exact q2D ho h2
 ·rename_i t x lo hi ho';rw[ho'];split at e
  ·rename_i s hs;obtain⟨v,h1,h2,h3,h4⟩:=qRQ (h:=h) e;obtain⟨vs,hvs⟩:=zPE.1 h4;refine⟨v,h,?_,same h2,h3⟩;have hx:qK (qB env) x=.f (.v (.string s)):=by rw[qO];exact gX hs
   simp only[hx,hvs,h1,pp1]
  obtain⟨v,h1,h2,h3⟩:=qXG ho (sv x) e;refine⟨v,h,?_,same h2,h3⟩;have m:∀ o:Option Operand,o.map (qK (qB env))=(o.map (kD env)).map SV.enc:=fun o=>by cases o <;> simp[qO]
  simp only[qO,m]
  have ns:∀ s,(kD env x).enc≠.f (.v (.string s)):=fun s hs=>by
   rw[hs] at h1;simp only[wW] at h1;cases h1
  split
  ·rename_i s hs;exact absurd hs (ns s)
  ·rw[h1];rfl
 ·rename_i t x i ho';rw[ho'];obtain⟨v,h1,h2⟩:=qSE e;have h3:=qFW (sv x) h1;exact⟨v,h,by simp only[qO,h3.1,pp1],same h3.2,h2⟩
 ·rename_i t x ix ho';rw[ho'];obtain⟨v,h1,h2,h3⟩:=qGZ ho (sv x) e;exact⟨v,h,by simp only[qO,h1,pp1],same h2,h3⟩
 ·rename_i t x ix ho';rw[ho'];split at e
  ·rename_i s hs;obtain⟨v,k',i,h0,h1,h2,h3⟩:=qR1 (h:=h) e;refine⟨v,h,?_,same h2,h3⟩;have hx:=gX hs;have hpl:pl (fvv (.int k' i))=some (.int k' i):=rfl;simp only[qO,hx,h0,hpl];simp only[fvv,h1,pp1]
  obtain⟨v,h1,h2,h3,l,hl⟩:=qXJ (sv x) e;refine⟨v,h,?_,same h2,h3⟩;simp only[qO];rw[hl] at h1 ⊢;simp only[SV.enc] at h1 ⊢;rw[h1];rfl
 ·rename_i t i ho';rw[ho'];obtain⟨v,h1,h2⟩:=qSE e;have h3:=qL0 (sv t) h1;exact⟨v,h,by simp only[qO,h3.1,pp1],same h3.2,h2⟩
 ·rename_i ho';rw[ho'];exact qNV ho e
 ·rename_i t m kx ok ho';rw[ho'];obtain⟨v,h1,h2,h3⟩:=qRR e;exact⟨v,h,by simp only[qO,h1,pp1],same h2,h3⟩
 ·rename_i t m kx x ho';rw[ho'];obtain⟨h',h1,h2,h3,h4⟩:=qH5 ho e;exact⟨_,h',by simp only[qO,h1,ppS];simp[SV.enc,qB],⟨h2,h3,by simp[SV.ok,okL]⟩,h4⟩
 ·rename_i t m kx ho';rw[ho'];simp only[qO];exact qJ8 ho e
 ·rename_i c ho';rw[ho'];have ha:=gM env c.args;have hao:=fM he c.args;split at e
  ·rename_i x y hc hl;rw[hl] at ha hao;simp only[okL] at hao;simp only[hc,ha,qB,uO];exact q1W ho hao.1 hao.2.1 e
  ·rename_i x y hc hl;rw[hl] at ha hao;simp only[okL] at hao;simp only[hc,ha,qB,uO];exact q2J ho hao.1 hao.2.1 e
  ·rename_i x hc hl;rw[hl] at ha hao;simp only[okL] at hao
   cases hst:qY6 P c.argTypes with
   | true =>
     rw[hst] at e;simp only[cond_true] at e;split at e
     ·rename_i s hs;refine⟨_,h,?_,same (by simp[SV.ok]),e⟩;obtain⟨cal,args,ts⟩:=c;simp only at hc hl hst;subst hc
      obtain⟨p,rfl,hp⟩:∃ p,args=#[p]∧kD env p=x:=by
       unfold eH at hl;obtain⟨l⟩:=args
       match l,hl with
       | [p],hl=>simp at hl;exact⟨p,rfl,hl⟩
      have vp:(qSK (qB env)).val p=.string s:=cB P (by rw[qO,hp,gX hs];rfl);simp only[uO,ha,qB,hst,cond_true];unfold wD;have hpl:plL [x.enc]=some [.string s]:=by rw[gX hs];rfl
      rw[hpl];simp only;rw[qRO hst vp];simp[pp1,SV.enc,Ty.fv,fvv]
     ·cases e
   | false =>
     rw[hst] at e;simp only[cond_false] at e;split at e
     ·rename_i v hv;have h3:=q0Z hv;refine⟨v,h,?_,same h3.2,e⟩;simp only[hc,ha,qB,uO,hst,cond_false,h3.1,pp1]
     obtain⟨v,h1,h2⟩:=qSE e;have h3:=q0J ho hao.1 h1;refine⟨v,h,?_,same h3.2,h2⟩;simp only[hc,ha,qB,uO,hst,cond_false,h3.1,pp1]
  ·rename_i x y hc hl;rw[hl] at ha;obtain⟨v,h1,h2,h3⟩:=q4Q (h:=h) (lo:=true) (ty:=o.type) hl hc e;exact⟨v,h,by simp only[hc,ha,qB,uO];exact h1,same h2,h3⟩
  ·rename_i x y hc hl;rw[hl] at ha;obtain⟨v,h1,h2,h3⟩:=q4Q (h:=h) (lo:=false) (ty:=o.type) hl hc e;exact⟨v,h,by simp only[hc,ha,qB,uO];exact h1,same h2,h3⟩
  ·cases e
 ·cases e
def zCE (P:Program)(o:Oper)(env:List SV)(k:Nat)(h:SH)(K:SV->SH->zEP R):zEP R:=match o.op with
 | .entry it=>qVI P (kD env it) h K
 | _=>sop P o env k h K
theorem q62 {k:Nat}{K:SV->SH->zEP R}(ho:OkH P h)(he:okL h env)(e:(zCE P o env k h K).run=some r) :
 ∃ v h',q4S P o (qB env) k (qC h.l)=some (v.enc,qC h'.l)∧Post P h h' v∧(K v h').run=some r:=by
 unfold zCE at e;split at e
 ·rename_i it ho';obtain⟨v,h1,h2,h3⟩:=qX2 ho e;refine⟨v,h,?_,⟨.refl _,ho,h2⟩,h3⟩;unfold q4S;rw[ho'];simp only[qO,h1,pp1]
 ·obtain⟨v,h',h1,h2,h3⟩:=q4D ho he e;exact⟨v,h',qY4 h1,h2,h3⟩
end
end Go.Sv
namespace Go.Sv
open Go.Idl
variable {as env:List SV}{d k m n o w:Nat}{el ty:TypeId}{g:FuncId}{h':SH}{nm:Nm}{v:SV}
noncomputable section
variable [Gc]
variable [Yl]
variable {P:Program}{h:SH}{R:Type}{r:R}{tab:uW}
omit [Yl] in
theorem qAC:∀ (cs:List FV) (ph:PHp) (n:Nat),tV (fz1 P n) (cs.map .f) ph=some (cs,ph)
 | [],ph,n=>rfl
 | c::cs,ph,n=>by
   have e:fz1 P n ph (.f c)=some (c,ph):=by cases n <;> rfl
   show (match fz1 P n ph (.f c) with
    | some (y,ph1)=>(match tV (fz1 P n) (cs.map .f) ph1 with
      | some (ys,ph2)=>some (y::ys,ph2)
      | none=>none)
    | none=>none)=_
   rw[e];simp only[qAC cs ph n]
theorem q2W {gr:Bool}{g:Nat}{t:Ty}{xs:List t.sem}(ho:OkH P h)(hk:slk k h.l=some (.list el gr g w t xs))(hn:n=xs.length)(hom:o+m<=n) :
 fz1 P (d+1) (qC h.l) (.own k n o m)=some (.l el m (((xs.drop o).take m).flatMap t.cells),qC (h.del k).l):=by
 have hl:=ho.list _ _ _ _ _ _ _ hk;simp only[fz1,zL hk];rw[show (SO.list el gr g w t xs).enc.el=el from rfl,hl.2.1];simp only[qU,hn,aC,cond_true];rw[show (SO.list el gr g w t xs).enc.cs=(xs.flatMap t.cells).map .f from rfl,<-zQN,<-zQI,gU,gK,qAC];show some _=some (_,qC (sdl k h.l));rw[fB]
def q2P (el:TypeId)(t:Ty)(k g:Nat)(f:List t.sem->List t.sem)(h:SH):Option (List t.sem×SH):=match slk k h.l with
 | some (.list el' _ g' _ u xs)=>cond (Nat.beq el' el&&Nat.beq g g') (match qDY u t xs with
   | some xs=>some (f xs,h.del k)
   | none=>none) none
 | _=>none
def q17 (el:TypeId)(t:Ty):List SV->SH->Option (List (List t.sem)×SH)
 | [],h=>some ([],h)
 | .own k g _::l,h=>(match q2P el t k g (fun xs=>xs) h with
   | some (x,h1)=>(match q17 el t l h1 with
     | some (xs,h2)=>some (x::xs,h2)
     | none=>none)
   | none=>none)
 | _,_=>none
def qV8 (P:Program)(el e2:TypeId)(t2:Ty)(k n:Nat)(h:SH):Option (List (List t2.sem)×SH):=match slk k h.l with
 | some (.cells el' _ cs)=>cond (Nat.beq el' el&&Nat.beq n cs.length) (match szT P el with
   | some 1=>q17 e2 t2 cs (h.del k)
   | _=>none) none
 | _=>none
def zAH (P:Program)(el:TypeId):(t:Ty)->(k n:Nat)->SH->Option (List t.sem×SH)
 | .list e2 t2,k,n,h=>qV8 P el e2 t2 k n h
 | _,_,_,_=>none
def q9J (P:Program)(el:TypeId)(t:Ty)(k g n:Nat)(h:SH):Option (List t.sem×SH):=match q2P el t k g (fun xs=>xs) h with
 | some r=>some r
 | none=>zAH P el t k n h
def zDX (P:Program)(ty el:TypeId)(t:Ty)(h:SH):Option (List t.sem×SH):=match zP P ty with
 | some el'=>cond (Nat.beq el' el) (some ([],h)) none
 | none=>none
def q9F (P:Program)(ty el el':TypeId)(k':IntKind)(xs:List Int):(t:Ty)->Option (List t.sem)
 | .int k=>cond (Nat.beq el' el&&decide (k'=k)) (match zP P ty with
   | some e=>cond (Nat.beq e el) (some xs) none
   | none=>none) none
 | _=>none
def qXP (t:Ty)(v:SV)(h:SH):Option (t.sem×SH):=match t.zI9 v with
 | some x=>some (x,h)
 | none=>none
def q7A (P:Program)(el el':TypeId)(k w:Nat)(ik:IntKind)(h:SH):Option (List Int×SH):=match slk k h.l with
 | some (.spc w' (.arr el0 ik' xs))=>cond (Nat.beq el el'&&(Nat.beq w' w&&(decide (ik'=ik)&&!spec P el0))) (some (xs,h.del k)) none
 | _=>none
def zA9 (P:Program)(el el':TypeId)(k w:Nat):(t:Ty)->SH->Option (List t.sem×SH)
 | .int ik,h=>q7A P el el' k w ik h
 | _,_=>none
omit [Yl] in
theorem qZL {k:IntKind}:∀ (xs:List Int),List.flatMap (Ty.int k).cells xs=xs.map fun x=>FV.v (.int k x)
 | []=>rfl
 | x::xs=>by rw[zO1,qZL xs];rfl
theorem qZT {el':TypeId}:∀ {t:Ty} {h h':SH} {x:List t.sem},OkH P h->(SV.asl el' k w n).ok h->zA9 P el el' k w t h=some (x,h') ->
 fz1 P 4 (qC h.l) (.asl el' k n)=some ((Ty.list el t).fv x,qC h'.l)∧Keep h h'∧OkH P h'
 | .int ik,h,h',x,ho,hv,e=>by
   have e:q7A P el el' k w ik h=some (x,h'):=e;unfold q7A at e;split at e
   ·rename_i w' el0 ik' xs hk
    cases hc:(Nat.beq el el'&&(Nat.beq w' w&&(decide (ik'=ik)&&!spec P el0))) with
    | false=>rw[hc] at e;cases e
    | true =>
      rw[hc] at e;cases e;simp only[zN8,zO0,decide_eq_true_eq] at hc;obtain⟨h1,h2,h3,h4⟩:=hc;have h1:=zN9 h1;have h2:=zN9 h2;subst h1 h2 h3;simp only[SV.ok] at hv;obtain⟨el1,ik1,xs1,q1,q2⟩:=hv.2 _ hk rfl;cases q1;have hd:=fU (k:=k) ho;refine⟨?_,hd.1,hd.2⟩;simp only[fz1,zL hk]
      show (cond (Nat.beq n (x.map fun y=>fvv (.int ik' y)).length&&(!spec P el0&&!false)) (match tV (fz1 P 3) (x.map fun y=>fvv (.int ik' y)) (nS k (qC h.l)) with
       | some (cs,ph')=>some (FV.l el n cs,ph')
       | none=>none) none)=_
      rw[show (x.map fun y=>fvv (.int ik' y))=(x.map fun y=>FV.v (.int ik' y)).map .f by rw[zQJ];rfl,qAC,zOK,zOK,h4,q2];simp only[aC,Bool.not_false,zO5,cond_true];rw[show nS k (qC h.l)=qC (h.del k).l from (fB k _).symm];show some (FV.l el x.length _,_)=some (FV.l el x.length (List.flatMap (Ty.int ik').cells x),_);rw[qZL]
   ·cases e
 | .bool,_,_,_,_,_,e=>by cases e
 | .str,_,_,_,_,_,e=>by cases e
 | .raw,_,_,_,_,_,e=>by cases e
 | .nif,_,_,_,_,_,e=>by cases e
 | .unit,_,_,_,_,_,e=>by cases e
 | .ol _ _,_,_,_,_,_,e=>by cases e
 | .list _ _,_,_,_,_,_,e=>by cases e
 | .pair _ _,_,_,_,_,_,e=>by cases e
def q2R (P:Program)(ty:TypeId):(t:Ty)->SV->SH->Option (t.sem×SH)
 | .list el t,.own k g n,h=>q9J P el t k g n h
 | .list el t,.sl k g _ o m,h=>q2P el t k g (fun xs=>(xs.drop o).take m) h
 | .list el t,.asl el' k w _,h=>zA9 P el el' k w t h
 | .list el t,.c (.slice none 0 0),h=>zDX P ty el t h
 | .list el t,.d (.ol el' k') xs,h=>(match q9F P ty el el' k' xs t with
   | some x=>some (x,h)
   | none=>none)
 | t,v,h=>cond t.nol (qXP t v h) none
omit [Yl] in
theorem oF:∀ {t:Ty} {x:t.sem},(t.one&&t.nol)=true->rt0 P ty (.f (t.fv x))=.f (t.fv x)
 | .int _,_,_=>rfl
 | .bool,_,_=>rfl
 | .str,_,_=>rfl
 | .raw,_,_=>rfl
 | .nif,_,_=>rfl
 | .ol _ _,_,e=>by cases e
 | .list _ _,_,_=>rfl
 | .unit,_,e=>by cases e
 | .pair _ _,_,e=>by cases e
theorem qQF {t:Ty}{g:Nat}{f:List t.sem->List t.sem}{x:List t.sem}(ho:OkH P h)(hs:qUZ h k g n)(hom:o+m<=n)(hf:∀ xs:List t.sem,xs.length=n->f xs=(xs.drop o).take m)(e:q2P el t k g f h=some (x,h')) :
 fz1 P (d+1) (qC h.l) (.own k n o m)=some ((Ty.list el t).fv x,qC h'.l)∧Keep h h'∧OkH P h':=by
 unfold q2P at e;split at e
 ·rename_i el' gr g' w u xs hk
  cases hc:(Nat.beq el' el&&Nat.beq g g') with
  | false=>rw[hc] at e;cases e
  | true =>
    rw[hc] at e;rw[zN8] at hc;have he:el'=el:=zN9 hc.1;have hg:g=g':=zN9 hc.2;subst he hg;simp only[cond_true] at e;split at e
    ·rename_i ys hys;cases uJ hys;cases e;have hn:=hs.2 _ _ _ _ _ hk;have hd:=fU (k:=k) ho;refine⟨?_,hd.1,hd.2⟩;rw[q2W ho hk hn hom,hf _ hn.symm];show some (FV.l el' m _,_)=some (FV.l el' _ _,_);rw[zPX,zQ0,zP2 (by omega)]
    ·cases e
 ·cases e
theorem qHX {ty:TypeId}{t:Ty}{g:Nat}{f:List t.sem->List t.sem}{x:List t.sem}(ho:OkH P h)(hs:qUZ h k g n)(hom:o+m<=n)(hf:∀ xs:List t.sem,xs.length=n->f xs=(xs.drop o).take m)(e:q2P el t k g f h=some (x,h')) :
 fz1 P 4 (qC h.l) (.own k n o m)=some ((Ty.list el t).fv x,qC h'.l)∧Keep h h'∧OkH P h' :=
 qQF (d:=3) ho hs hom hf e
theorem qQQ {el:TypeId}{t:Ty}:∀ {l:List SV} {h h':SH} {x:List (List t.sem)},OkH P h->okL h l->q17 el t l h=some (x,h') ->
 tV (fz1 P 3) (qB l) (qC h.l)=some (x.map (Ty.list el t).fv,qC h'.l)∧Keep h h'∧OkH P h'∧x.length=l.length
 | [],h,h',x,ho,hl,e=>by
   cases e;exact⟨rfl,.refl _,ho,rfl⟩
 | v::l,h,h',x,ho,hl,e=>by
   cases v with
   | own k g n =>
     have e:(match q2P el t k g (fun xs=>xs) h with
      | some (x,h1)=>(match q17 el t l h1 with
        | some (xs,h2)=>some (x::xs,h2)
        | none=>none)
      | none=>none)=some (x,h'):=e
     split at e
     ·rename_i y h1 hy;split at e
      ·rename_i ys h2 hys;cases e;simp only[okL,SV.ok] at hl;obtain⟨a1,a2,a3⟩:=qQF (d:=2) (n:=n) (o:=0) (m:=n) ho hl.1 (by omega) (fun xs hl=>by rw[zPU,<-hl,zRD]) hy;obtain⟨b1,b2,b3,b4⟩:=qQQ a3 (qJ a2 hl.2) hys;refine⟨?_,a2.trans b2,b3,by simp[b4]⟩
       show (match fz1 P 3 (qC h.l) (.own k n 0 n) with
        | some (y,ph1)=>(match tV (fz1 P 3) (qB l) ph1 with
          | some (ys,ph2)=>some (y::ys,ph2)
          | none=>none)
        | none=>none)=_
       rw[a1];simp only[b1];rfl
      ·cases e
     ·cases e
   | _=>cases e
theorem q0H:∀ {t:Ty} {k n g:Nat} {h h':SH} {x:List t.sem},OkH P h->zAH P el t k n h=some (x,h') ->
 fz1 P 4 (qC h.l) (.own k n 0 n)=some ((Ty.list el t).fv x,qC h'.l)∧Keep h h'∧OkH P h'
 | .list e2 t2,k,n,g,h,h',x,ho,e=>by
   have e:qV8 P el e2 t2 k n h=some (x,h'):=e;unfold qV8 at e;split at e
   ·rename_i el' w cs hk
    cases hc:(Nat.beq el' el&&Nat.beq n cs.length) with
    | false=>rw[hc] at e;cases e
    | true =>
      rw[hc] at e;simp only[cond_true] at e;rw[zN8] at hc;have h1:=zN9 hc.1;have h2:=zN9 hc.2;subst h1;split at e
      ·rename_i hs;have hd:=fU (k:=k) ho;obtain⟨b1,b2,b3,b4⟩:=qQQ hd.2 (qJ hd.1 (ho.cells _ _ _ _ hk)) e;refine⟨?_,hd.1.trans b2,b3⟩;simp only[fz1,zL hk]
       show (match szT P el' with
        | some s=>cond (Nat.beq (n*s) (qB cs).length) (match tV (fz1 P 3) (((qB cs).drop (0*s)).take (n*s)) (nS k (qC h.l)) with
          | some (cs,ph')=>some (FV.l el' n cs,ph')
          | none=>none) none
        | none=>none)=_
       rw[hs];simp only[Nat.mul_one,zR0,zPU,qQ,h2,aC,cond_true];rw[zO2 (by rw[qQ];exact zOA _),show nS k (qC h.l)=qC (h.del k).l from (fB k _).symm,b1];show some (FV.l el' cs.length (x.map (Ty.list e2 t2).fv),_)=some (FV.l el' x.length (x.flatMap (Ty.list e2 t2).cells),_);rw[b4]
       have hf:∀ y:List (List t2.sem),y.flatMap (Ty.list e2 t2).cells=y.map (Ty.list e2 t2).fv:=fun y=>by
        induction y with
        | nil=>rfl
        | cons a y ih=>rw[zO1,ih];rfl
       rw[hf]
      ·cases e
   ·cases e
 | .int _,_,_,_,_,_,_,_,e=>by cases e
 | .bool,_,_,_,_,_,_,_,e=>by cases e
 | .str,_,_,_,_,_,_,_,e=>by cases e
 | .unit,_,_,_,_,_,_,_,e=>by cases e
 | .pair _ _,_,_,_,_,_,_,_,e=>by cases e
 | .raw,_,_,_,_,_,_,_,e=>by cases e
 | .ol _ _,_,_,_,_,_,_,_,e=>by cases e
 | .nif,_,_,_,_,_,_,_,e=>by cases e
theorem qQB {t:Ty}{x:t.sem}(ho:OkH P h)(hv:v.ok h)(e:q2R P ty t v h=some (x,h')) :
 ∃ y,fz1 P 4 (qC h.l) v.enc=some (y,qC h'.l)∧rt0 P ty (.f y)=.f (t.fv x)∧(t.one&&t.nol)=true∧Keep h h'∧OkH P h':=by
 unfold q2R at e;split at e
 ·rename_i el t k g n;simp only[SV.ok] at hv;unfold q9J at e;split at e
  ·rename_i r hr;cases e;obtain⟨h1,h2,h3⟩:=qHX (ty:=ty) (n:=n) (o:=0) (m:=n) ho hv (by omega) (fun xs hl=>by rw[zPU,<-hl,zRD]) hr;exact⟨_,by simp only[SV.enc];exact h1,oF rfl,rfl,h2,h3⟩
  ·obtain⟨h1,h2,h3⟩:=q0H (g:=g) ho e;exact⟨_,by simp only[SV.enc];exact h1,oF rfl,rfl,h2,h3⟩
 ·rename_i el t k g n o m;simp only[SV.ok] at hv;obtain⟨h1,h2,h3⟩:=qHX (ty:=ty) (n:=n) (o:=o) (m:=m) ho hv.1 hv.2 (fun xs hl=>rfl) e;exact⟨_,by simp only[SV.enc];exact h1,oF rfl,rfl,h2,h3⟩
 ·rename_i el t el' k w n;obtain⟨h1,h2,h3⟩:=qZT ho hv e;exact⟨_,by simp only[SV.enc];exact h1,oF rfl,rfl,h2,h3⟩
 ·rename_i el t;unfold zDX at e;split at e
  ·rename_i el' hel
   cases hc:Nat.beq el' el with
   | false=>rw[hc] at e;cases e
   | true =>
     rw[hc] at e;cases e;have he:el'=el:=zN9 hc;subst he;refine⟨.v (.slice none 0 0),by simp only[SV.enc,fvv,fz1],?_,rfl,.refl _,ho⟩
     show (match zP P ty with
      | some el=>PV.f (.l el 0 [])
      | none=>fvv (.slice none 0 0))=_
     rw[hel];rfl
  ·cases e
 ·rename_i el t el' k' xs;split at e
  ·rename_i y hy;cases e;unfold q9F at hy;split at hy
   ·rename_i k _
    cases hc:(Nat.beq el' el&&decide (k'=k)) with
    | false=>rw[hc] at hy;cases hy
    | true =>
      rw[hc] at hy;rw[zN8] at hc;have h1:el'=el:=zN9 hc.1;have h2:k'=k:=by simpa using hc.2
      subst h1 h2;simp only[cond_true] at hy;split at hy
      ·rename_i e0 he0
       cases hc2:Nat.beq e0 el' with
       | false=>rw[hc2] at hy;cases hy
       | true =>
         rw[hc2] at hy;cases hy;have h3:e0=el':=zN9 hc2;subst h3;refine⟨fvo e0 k' xs,by simp only[SV.enc];rfl,?_,rfl,.refl _,ho⟩
         cases xs with
         | nil =>
           show (match zP P ty with
            | some el=>PV.f (.l el 0 [])
            | none=>fvv (.slice none 0 0))=_
           rw[he0];rfl
         | cons x xs=>rfl
      ·cases hy
   ·cases hy
  ·cases e
 ·obtain⟨zML,e⟩:t.nol=true∧qXP t v h=some (x,h'):=by
   cases hn:t.nol with
   | true=>rw[hn] at e;exact⟨rfl,e⟩
   | false=>rw[hn] at e;cases e
  unfold qXP at e;split at e
  ·rename_i y hy;cases e;obtain⟨h1,h2⟩:=qAO hy;have h3:(t.one&&t.nol)=true:=by rw[h2,zML];rfl
   exact⟨_,by rw[h1];rfl,oF h3,h3,.refl _,ho⟩
  ·cases e
def zCN (P:Program)(ty:TypeId)(t:Ty)(v:SV)(h:SH):Option (t.sem×SH):=cond (Gc.ol ty) (qXP t v h) (q2R P ty t v h)
theorem q6Y {t:Ty}{x:t.sem}(ho:OkH P h)(hv:v.ok h)(e:zCN P ty t v h=some (x,h')) :
 ∃ y,fz1 P 4 (qC h.l) v.enc=some (y,qC h'.l)∧rtC P ty (.f y)=.f (t.fv x)∧rtC P ty (.f (t.fv x))=.f (t.fv x)∧t.one=true∧Keep h h'∧OkH P h':=by
 unfold zCN at e;unfold rtC
 cases hc:Gc.ol ty with
 | true =>
   rw[hc] at e;simp only[cond_true] at e ⊢;unfold qXP at e;split at e
   ·rename_i y hy;cases e;obtain⟨h1,h2⟩:=qAO hy;exact⟨_,by rw[h1];rfl,rfl,trivial,h2,.refl _,ho⟩
   ·cases e
 | false =>
   rw[hc] at e;simp only[cond_false] at e ⊢;obtain⟨y,a1,a2,a3,a4,a5⟩:=qQB ho hv e;exact⟨y,a1,a2,oF a3,(by rw[zN8] at a3;exact a3.1),a4,a5⟩
def qG3 (P:Program)(t:Ty)(tys:List TypeId)(l:List SV)(h:SH):Option (t.sem×List TypeId×List SV×SH):=match tys,l with
 | ty::tys,v::l=>(match zCN P ty t v h with
   | some (x,h')=>some (x,tys,l,h')
   | none=>none)
 | _,_=>none
def Ty.zHU (P:Program):(t:Ty)->List TypeId->List SV->SH->Option (t.sem×List TypeId×List SV×SH)
 | .unit,tys,l,h=>some ((),tys,l,h)
 | .pair a b,tys,l,h=>match a.zHU P tys l h with
   | some (x,zIK,l1,h1)=>(match b.zHU P zIK l1 h1 with
     | some (y,zK7,l2,h2)=>some ((x,y),zK7,l2,h2)
     | none=>none)
   | none=>none
 | .int k,tys,l,h=>qG3 P (.int k) tys l h
 | .bool,tys,l,h=>qG3 P .bool tys l h
 | .str,tys,l,h=>qG3 P .str tys l h
 | .raw,tys,l,h=>qG3 P .raw tys l h
 | .ol el k,tys,l,h=>qG3 P (.ol el k) tys l h
 | .nif,tys,l,h=>qG3 P .nif tys l h
 | .list el t,tys,l,h=>qG3 P (.list el t) tys l h
def zDK (P:Program)(t:Ty)(tys:List TypeId)(l:List SV)(h:SH)(x:t.sem)(zE7:List TypeId)(l':List SV)(h':SH):Prop :=
 okL h' l'∧Keep h h'∧OkH P h'∧∃ ys:List FV,(∀ zs p,tV (fz1 P 4) (qB l') (qC h'.l)=some (zs,p)->tV (fz1 P 4) (qB l) (qC h.l)=some (ys++zs,p)) ∧
  ∀ zs:List PV,rtL (rtC P) tys (ys.map .f++zs)=(t.cells x).map .f++rtL (rtC P) zE7 zs∧rtL (rtC P) tys ((t.cells x).map .f++zs)=(t.cells x).map .f++rtL (rtC P) zE7 zs
theorem aA {t:Ty}{tys zE7:List TypeId}{l l':List SV}{x:t.sem}(ho:OkH P h)(hl:okL h l)(e:qG3 P t tys l h=some (x,zE7,l',h')):zDK P t tys l h x zE7 l' h':=by
 unfold qG3 at e;split at e
 ·rename_i ty tys v l;split at e
  ·rename_i y h1 hd;cases e;simp only[okL] at hl;obtain⟨y,a1,a2,a2',a3,a4,a5⟩:=q6Y ho hl.1 hd;refine⟨qJ a4 hl.2,a4,a5,[y],fun zs p hz=>?_,fun zs=>⟨?_,?_⟩⟩
   ·simp only[qB,tV,a1,hz];rfl
   ·show rtC P ty (.f y)::rtL (rtC P) _ zs=_;rw[a2,Ty.cells_one a3];rfl
   ·rw[Ty.cells_one a3];show rtC P ty (.f (t.fv _))::rtL (rtC P) _ zs=_;rw[a2'];rfl
  ·cases e
 ·cases e
theorem qCN:∀ {t:Ty} {tys zE7:List TypeId} {l l':List SV} {h:SH} {x:t.sem} {h':SH},OkH P h->okL h l->t.zHU P tys l h=some (x,zE7,l',h')->zDK P t tys l h x zE7 l' h'
 | .unit,tys,zE7,l,l',h,x,h',ho,hl,e=>by
   cases e;exact⟨hl,.refl _,ho,[],fun zs p hz=>hz,fun zs=>⟨rfl,rfl⟩⟩
 | .int k,tys,zE7,l,l',h,x,h',ho,hl,e=>aA ho hl e
 | .bool,tys,zE7,l,l',h,x,h',ho,hl,e=>aA ho hl e
 | .str,tys,zE7,l,l',h,x,h',ho,hl,e=>aA ho hl e
 | .raw,tys,zE7,l,l',h,x,h',ho,hl,e=>aA ho hl e
 | .ol _ _,tys,zE7,l,l',h,x,h',ho,hl,e=>aA ho hl e
 | .nif,tys,zE7,l,l',h,x,h',ho,hl,e=>aA ho hl e
 | .list el t,tys,zE7,l,l',h,x,h',ho,hl,e=>aA ho hl e
 | .pair a b,tys,zE7,l,l',h,x,h',ho,hl,e=>by
   unfold Ty.zHU at e;split at e
   ·rename_i x1 zIK l1 h1 hd1;split at e
    ·rename_i y zK7 l2 h2 hd2;cases e;obtain⟨a1,a2,a3,ys,a4,a5⟩:=qCN ho hl hd1;obtain⟨b1,b2,b3,zs,b4,b5⟩:=qCN a3 a1 hd2;refine⟨b1,a2.trans b2,b3,ys++zs,fun us p hu=>?_,fun us=>⟨?_,?_⟩⟩
     ·rw[zO8];exact a4 _ _ (b4 _ _ hu)
     ·rw[zPQ,zO8,(a5 _).1,(b5 _).1];show _=(a.cells x1++b.cells y).map PV.f++_;rw[zPQ,zO8]
     ·show rtL (rtC P) _ ((a.cells x1++b.cells y).map PV.f++us)=(a.cells x1++b.cells y).map PV.f++_;rw[zPQ,zO8,(a5 _).2,(b5 _).2,zO8]
    ·cases e
   ·cases e
def q59 (P:Program)(ty:TypeId)(t:Ty)(v:SV)(h:SH):Option (t.sem×SH):=cond t.one (match v with
 | .agg _=>none
 | v=>q2R P ty t v h) (match v with
 | .agg l=>(match t.zHU P (wE P 8 ty) l h with
   | some (x,_,[],h')=>some (x,h')
   | _=>none)
 | _=>none)
theorem qBZ {t:Ty}{x:t.sem}(ho:OkH P h)(hv:v.ok h)(e:q59 P ty t v h=some (x,h')) :
 ∃ y,fzP P (qC h.l) v.enc=some (y,qC h'.l)∧rt1 P ty y=t.pv x∧Keep h h'∧OkH P h'∧rt1 P ty (t.pv x)=t.pv x:=by
 unfold q59 at e
 cases ht:t.one with
 | true =>
   rw[ht] at e;simp only[cond_true] at e;split at e
   ·cases e
   ·rename_i hna;obtain⟨y,h1,h2,h3,h4,h5⟩:=qQB ho hv e
    have hpv:rt1 P ty (t.pv x)=t.pv x:=by
     unfold Ty.pv;rw[ht];exact oF h3
    refine⟨.f y,?_,?_,h4,h5,hpv⟩
    ·cases v with
     | agg l=>exact absurd rfl (hna l)
     | opt b k o w=>cases b <;> (simp only[SV.enc,fvv,fzP,cond_true,cond_false] at h1 ⊢;rw[h1])
     | _=>simp only[SV.enc,fvv,fzP] at h1 ⊢;rw[h1]
    ·show rt0 P ty (.f y)=_;rw[h2];unfold Ty.pv;rw[ht];rfl
 | false =>
   rw[ht] at e;simp only[cond_false] at e;split at e
   ·rename_i l;split at e
    ·rename_i x1 zIK h1 hd;cases e;simp only[SV.ok] at hv;obtain⟨a1,a2,a3,ys,a4,a5⟩:=qCN ho hv hd
     have hpv:rt1 P ty (t.pv x)=t.pv x:=by
      unfold Ty.pv;rw[ht];show PV.agg (rtL (rtC P) (wE P 8 ty) ((t.cells x).map .f))=_;have:=(a5 []).2;rw[zP7] at this;rw[this];cases zIK <;> simp[rtL]
     refine⟨.agg (ys.map .f),?_,?_,a2,a3,hpv⟩
     ·have:=a4 [] (qC h'.l) (by simp[qB,tV]);simp only[SV.enc,fzP,this,zP7]
     ·show PV.agg (rtL (rtC P) (wE P 8 ty) (ys.map .f))=_;have:=(a5 []).1;rw[zP7] at this;rw[this];unfold Ty.pv;rw[ht];cases zIK <;> simp[rtL]
    ·cases e
   ·cases e
def vV (P:Program):List TypeId->(ts:List Ty)->List SV->SH->Option (TyL ts×SH)
 | _,[],[],h=>some ((),h)
 | ty::_,[t],[v],h=>q59 P ty t v h
 | ty::tys,t::u::ts,v::vs,h=>match q59 P ty t v h with
   | some (x,h1)=>(match vV P tys (u::ts) vs h1 with
     | some (y,h2)=>some ((x,y),h2)
     | none=>none)
   | none=>none
 | _,_,_,_=>none
theorem cZ:∀ {tys:List TypeId} {ts:List Ty} {vs:List SV} {h:SH} {x:TyL ts} {h':SH},OkH P h->okL h vs->vV P tys ts vs h=some (x,h') ->
 ∃ ys,fzA P (qB vs) (qC h.l)=some (ys,qC h'.l)∧rtL (rt1 P) tys ys=pvL ts x∧Keep h h'∧OkH P h'
 | tys,[],[],h,x,h',ho,hv,e=>by
   unfold vV at e;cases e;refine⟨[],rfl,?_,.refl _,ho⟩;cases tys <;> rfl
 | ty::tys,[t],[v],h,x,h',ho,hv,e=>by
   unfold vV at e;simp only[okL] at hv;obtain⟨y,h1,h2,h3,h4,_⟩:=qBZ ho hv.1 e;refine⟨[y],?_,?_,h3,h4⟩
   ·simp only[qB,fzA,h1]
   ·show rt1 P ty y::rtL (rt1 P) tys []=[t.pv x];rw[h2];cases tys <;> rfl
 | ty::tys,t::u::ts,v::vs,h,x,h',ho,hv,e=>by
   unfold vV at e;simp only[okL] at hv;split at e
   ·rename_i x1 h1 hd;split at e
    ·rename_i y1 h2 hd2;cases e;obtain⟨y,a1,a2,a3,a4,_⟩:=qBZ ho hv.1 hd;obtain⟨ys,b1,b2,b3,b4⟩:=cZ a4 (qJ a3 hv.2) hd2;refine⟨y::ys,?_,?_,a3.trans b3,b4⟩
     ·simp only[qB,fzA,a1,b1]
     ·show rt1 P ty y::rtL (rt1 P) tys ys=t.pv x1::pvL (u::ts) y1;rw[a2,b2]
    ·cases e
   ·cases e
 | [],[_],[_],_,_,_,_,_,e=>by unfold vV at e;cases e
 | [],_::_::_,_::_,_,_,_,_,_,e=>by unfold vV at e;cases e
 | tys,[],_::_,_,_,_,_,_,e=>by cases tys <;> (unfold vV at e;cases e)
 | tys,_::ts,[],_,_,_,_,_,e=>by cases tys <;> cases ts <;> (unfold vV at e;cases e)
 | tys,[_],_::_::_,_,_,_,_,_,e=>by cases tys <;> (unfold vV at e;cases e)
def Ty.sv (t:Ty)(x:t.sem):SV:=cond t.one (.d t x) (.agg (t.svs x))
theorem nX (t:Ty)(x:t.sem):(t.sv x).enc=t.pv x:=by
 unfold Ty.sv Ty.pv;cases t.one <;> simp[SV.enc,gZ]
omit [Yl] in
theorem qLU (t:Ty)(x:t.sem):(t.sv x).ok h:=by
 unfold Ty.sv;cases t.one
 ·simp only[cond_false,SV.ok];exact qEQ t x
 ·simp[SV.ok]
def svL:(ts:List Ty)->TyL ts->List SV
 | [],_=>[]
 | [t],x=>[t.sv x]
 | t::u::ts,x=>t.sv x.1::svL (u::ts) x.2
theorem qB9:∀ (ts:List Ty) (x:TyL ts),qB (svL ts x)=pvL ts x
 | [],_=>by simp[svL,pvL,qB]
 | [t],x=>by simp[svL,pvL,qB,nX]
 | t::u::ts,x=>by
   show qB (t.sv x.1::svL (u::ts) x.2)=t.pv x.1::pvL (u::ts) x.2;simp only[qB,nX,qB9 (u::ts)]
omit [Yl] in
theorem qBD:∀ (ts:List Ty) (x:TyL ts),okL h (svL ts x)
 | [],_=>by simp[svL,okL]
 | [t],x=>by simp[svL,okL,qLU]
 | t::u::ts,x=>by
   show okL h (t.sv x.1::svL (u::ts) x.2);simp only[okL];exact⟨qLU t x.1,qBD (u::ts) x.2⟩
def qIZ (ts:List Ty)(x:TyL ts):SV:=match svL ts x with
 | [v]=>v
 | vs=>.tup vs
theorem qIF (ts:List Ty)(x:TyL ts):(qIZ ts x).enc=jL ts x:=by
 unfold qIZ jL;rw[<-qB9]
 match svL ts x with
 | []=>simp[qB,qDV,SV.enc]
 | [v]=>simp[qB,qDV]
 | a::b::l=>simp[qB,qDV,SV.enc]
omit [Yl] in
theorem qO1 (ts:List Ty)(x:TyL ts):(qIZ ts x).ok h:=by
 unfold qIZ;have:=qBD (h:=h) ts x;split
 ·rename_i v hv;rw[hv] at this;simp only[okL] at this;exact this.1
 ·simp only[SV.ok];exact this
def qPF (tab:uW)(T:zQ):Prop:=∀ g ent,slT g T=some ent->∀ x,tab g (pvL ent.as x)=(ent.F x).map (jL ent.rs)
def okc:FV->Bool
 | .v (.slice _ _ _)=>false
 | .v _=>true
 | .l _ _ _=>false
def _root_.Go.Sv.Ty.pln:Ty->Bool
 | .int _ | .bool | .str | .unit | .nif=>true
 | .pair a b=>Go.Sv.Ty.pln a&&Go.Sv.Ty.pln b
 | _=>false
omit [Yl] in
theorem o5:∀ (t:Ty) (x:t.sem),(t.cells x).all okc=t.pln
 | .int _,_=>rfl
 | .bool,_=>rfl
 | .str,_=>rfl
 | .unit,_=>rfl
 | .nif,_=>rfl
 | .raw,_=>rfl
 | .list _ _,_=>rfl
 | .ol _ _,xs=>by cases xs <;> rfl
 | .pair a b,x=>by
   show (a.cells x.1++b.cells x.2).all okc=(a.pln&&b.pln);rw[zRX,o5 a,o5 b]
omit [Yl] in
theorem qYV:∀ (cs:List FV),((qLD (cs.map .f)).isSome&&(cs.map PV.f).all q53)=cs.all okc
 | []=>rfl
 | c::cs=>by
   rw[zPM,<-qYV cs,zOQ,zPM]
   cases c with
   | l el n xs=>rfl
   | v x =>
     have e2:q53 (.f (.v x))=okc (.v x):=by cases x <;> rfl
     rw[e2,show qLD (.f (.v x)::cs.map .f)=(match qLD (cs.map .f) with
      | some vs=>some (x::vs)
      | none=>none) from rfl]
     cases qLD (cs.map PV.f) with
     | none=>simp only[zST,Bool.false_and,Bool.and_false]
     | some vs=>simp only[zRL,zSV]
omit [Yl] in
theorem qHV (t:Ty)(x:t.sem):vG (t.pv x)=t.pln∧((pl (t.pv x)).isSome&&qVO (t.pv x))=t.pln:=by
 unfold Ty.pv
 cases ht:t.one with
 | true =>
   simp only[cond_true];have:=o5 t x;rw[Ty.cells_one ht] at this;rw[<-this,zPM,List.all_nil,zQM]
   cases hv:t.fv x with
   | l el n xs=>exact⟨rfl,rfl⟩
   | v y=>cases y <;> exact⟨rfl,rfl⟩
 | false =>
   simp only[cond_false];have:=qYV (t.cells x);rw[o5] at this;refine⟨this,?_⟩;rw[<-this]
   show ((match qLD ((t.cells x).map .f) with
    | some vs=>some (Value.agg vs.toArray)
    | none=>none).isSome&&((t.cells x).map PV.f).all q53)=_
   cases qLD ((t.cells x).map .f) <;> rfl
def q85 (ts:List Ty):Bool:=ts.all Ty.pln
omit [Yl] in
theorem qLJ:∀ (ts:List Ty) (x:TyL ts),((plL (pvL ts x)).isSome&&(pvL ts x).all qVO)=q85 ts
 | [],_=>rfl
 | [t],x=>by
   show ((match pl (t.pv x) with
    | some v=>(match plL [] with
      | some vs=>some (v::vs)
      | none=>none)
    | none=>none).isSome&&((t.pv x)::[]).all qVO)=(t.pln&&true)
   rw[<- (qHV t x).2,zPM];cases pl (t.pv x) <;> simp[plL]
 | t::u::ts,x=>by
   show ((match pl (t.pv x.1) with
    | some v=>(match plL (pvL (u::ts) x.2) with
      | some vs=>some (v::vs)
      | none=>none)
    | none=>none).isSome&&((t.pv x.1)::pvL (u::ts) x.2).all qVO)=(t.pln&&q85 (u::ts))
   rw[<- (qHV t x.1).2,<-qLJ (u::ts) x.2,zPM]
   cases pl (t.pv x.1) with
   | none=>simp
   | some v=>cases plL (pvL (u::ts) x.2) with
     | none=>simp
     | some vs=>simp
omit [Yl] in
theorem qKJ (ts:List Ty)(x:TyL ts):vG (jL ts x)=q85 ts:=by
 unfold jL
 match ts,x with
 | [],x=>rfl
 | [t],x =>
   show vG (t.pv x)=(t.pln&&true);rw[(qHV t x).1,zQM]
 | t::u::ts,x =>
   have:=qLJ (t::u::ts) x;cases ts <;> exact this
def qR5 (P:Program)(T:zQ)(d:Bool)(g:FuncId)(as:List SV)(h:SH)(K:SV->SH->zEP R):zEP R:=match slT g T,P.funcs[g]? with
 | some ent,some fn=>(match vV P fn.params.toList ent.as as h with
   | some (x,h1)=>.bind (ent.F x) fun y=>cond d (cond (q85 ent.rs||(qB as).all qK5) (K (qIZ ent.rs y) h) .fail) (K (qIZ ent.rs y) (cond (q85 ent.rs) h h1))
   | none=>.fail)
 | _,_=>.fail
theorem qZZ {T:zQ}(ht:qPF tab T){K:SV->SH->zEP R}(ho:OkH P h)(ha:okL h as)(e:(qR5 P T false g as h K).run=some r) :
 ∃ v h',aJ P tab g (qB as) (qC h.l)=.ok v.enc (qC h'.l)∧Post P h h' v∧(K v h').run=some r:=by
 unfold qR5 at e;split at e
 ·rename_i ent fn hent hfn;split at e
  ·rename_i x h1 hx;obtain⟨y,hy,e1⟩:=run_bind e;obtain⟨ys,a1,a2,a3,a4⟩:=cZ ho ha hx;have e2:(K (qIZ ent.rs y) (cond (vG (jL ent.rs y)) h h1)).run=some r:=by rw[qKJ];exact e1
   refine⟨_,_,?_,⟨?_,?_,qO1 _ _⟩,e2⟩
   ·unfold aJ;rw[a1];simp only;rw[show rtA P g ys=pvL ent.as x by unfold rtA;rw[hfn];exact a2,ht g ent hent x,hy];simp only[zOM,qIF];cases vG (jL ent.rs y) <;> rfl
   ·cases vG (jL ent.rs y)
    ·exact a3
    ·exact .refl _
   ·cases vG (jL ent.rs y)
    ·exact a4
    ·exact ho
  ·cases e
 ·cases e
theorem qYS {T:zQ}(ht:qPF tab T){K:SV->SH->zEP R}(ho:OkH P h)(ha:okL h as)(e:(qR5 P T true g as h K).run=some r) :
 ∃ v h',rY P tab g (qB as) (qC h.l)=.ok v.enc (qC h'.l)∧Post P h h' v∧(K v h').run=some r:=by
 unfold qR5 at e;split at e
 ·rename_i ent fn hent hfn;split at e
  ·rename_i x h1 hx;obtain⟨y,hy,e1⟩:=run_bind e;obtain⟨ys,a1,a2,a3,a4⟩:=cZ ho ha hx;obtain⟨c,e2⟩:=qE (show (cond (vG (jL ent.rs y)||(qB as).all qK5) (K (qIZ ent.rs y) h) .fail:zEP R).run=some r by rw[qKJ];exact e1);refine⟨_,_,?_,⟨.refl _,ho,qO1 _ _⟩,e2⟩;unfold rY;rw[a1];simp only;rw[show rtA P g ys=pvL ent.as x by unfold rtA;rw[hfn];exact a2,ht g ent hent x,hy];simp only[zOM,qIF,c,cond_true]
  ·cases e
 ·cases e
def rZ (fv:SV)(args:List SV):Option (FuncId×List SV):=match fv with
 | .c (.func (.func g) a c)=>cond (a.toList.isEmpty&&c.toList.isEmpty) (some (g,args)) none
 | .fn g first cap=>some (g,first++(args++cap))
 | _=>none
theorem dR {fv:SV}{args:List SV}(hf:fv.ok h)(ha:okL h args)(e:rZ fv args=some (g,as)):target fv.enc (qB args)=some (g,qB as)∧okL h as:=by
 unfold rZ at e;split at e
 ·rename_i g' a c
  cases hc:(a.toList.isEmpty&&c.toList.isEmpty) with
  | false=>rw[hc] at e;cases e
  | true =>
    rw[hc] at e;cases e;exact⟨by simp only[target,SV.enc,fvv,hc,cond_true],ha⟩
 ·rename_i g' first cap
  cases e;simp only[SV.ok] at hf;exact⟨by simp only[target,SV.enc,dD],fG hf.1 (fG ha hf.2)⟩
 ·cases e
def q3L (P:Program)(T:zQ)(d:Bool)(f:SV)(args:List SV)(h:SH)(K:SV->SH->zEP R):zEP R:=match rZ f args with
 | some (g,as)=>qR5 P T d g as h K
 | none=>.fail
def q2U (P:Program)(T:zQ)(d:Bool)(k:Nat)(o:Oper)(env:List SV)(h:SH)(K:SV->SH->zEP R):zEP R:=match o.op with
 | .call ⟨.value f,args,_⟩=>q3L P T d (kD env f) (eH env args) h K
 | _=>sop P o env k h K
def qTY (P:Program)(G:Nat->Bool)(CI:CIT):Prop:=∀ {R:Type} (nm:Nm) (f:FuncId) (as:List SV) (h:SH) (K:SV->SH->zEP R) (r:R),OkH P h->okL h as->(CI R nm f as h K).run=some r ->
 qDK P G nm f (qB as) (qC h.l) fun v p=>∃ v' h',v=v'.enc∧p=qC h'.l∧Post P h h' v'∧(K v' h').run=some r
def qPM (p:Nat->Bool)(env:List SV):List (Nat×SO)->Bool
 | []=>true
 | (k,_)::l=>(!p k||z8 k (qB env))&&qPM p env l
theorem qJG {p:Nat->Bool}{env:List SV}:∀ {l:List (Nat×SO)},qPM p env l=true->clean p (qB env) (qC l)=true
 | [],_=>rfl
 | (k,o)::l,h=>by
   have h:((!p k||z8 k (qB env))&&qPM p env l)=true:=h;show ((!p k||z8 k (qB env))&&clean p (qB env) (qC l))=true;rw[zN8] at h ⊢;exact⟨h.1,qJG h.2⟩
section
variable {Γ:Type}
def q3Q (p:Nat->Bool):List (Nat×SO)->Bool
 | []=>true
 | (_,.cells _ _ l)::r=>tH p (qB l)&&q3Q p r
 | (_,.list _ _ _ _ _ _)::r=>q3Q p r
 | (_,.spc _ (.mit _ j _ _ _))::r=>!(p j)&&q3Q p r
 | (_,.spc _ (.map _))::r=>q3Q p r
 | (_,.spc _ (.iter _ _))::r=>q3Q p r
 | (_,.spc _ (.arr _ _ _))::r=>q3Q p r
theorem qWB (p:Nat->Bool):∀ (cs:List FV),tH p (cs.map .f)=true
 | []=>by simp[tH]
 | c::cs=>by simp[tH,noP,qWB p cs]
theorem qVW (p:Nat->Bool):∀ (l:List Nat),tH p (l.map iv)=true
 | []=>by simp[tH]
 | c::cs=>by
   show (true&&tH p (cs.map iv))=true;rw[qVW p cs];rfl
theorem qZU (p:Nat->Bool)(j si la:Nat)(seen:List Nat):tH p (qHM (.mp j) si la seen)=!(p j):=by
 show (!(p j)&&(true&&(true&&(tH p (seen.map iv)&&true))))=_;rw[qVW];simp
theorem qZR (p:Nat->Bool)(c:Nat):∀ (es:List MapEntry),tH p (kS c es)=true:=fun es=>by
 have:∀ es:List MapEntry,tH p (qDN es)=true:=fun es=>by
  induction es with
  | nil=>rfl
  | cons e es ih=>exact ih
 exact this es
theorem nH {p:Nat->Bool}:∀ {l:List (Nat×SO)},q3D p (qC l)=q3Q p l
 | []=>rfl
 | (j,.cells el w l)::r=>by
   show (tH p (qB l)&&q3D p (qC r))=_;rw[nH];rfl
 | (j,.list el gr g w t xs)::r=>by
   show (tH p ((xs.flatMap t.cells).map .f)&&q3D p (qC r))=_;rw[qWB,nH];rfl
 | (j,.spc w (.mit t i si la seen))::r=>by
   show (tH p (qHM (.mp i) si la seen)&&q3D p (qC r))=_;rw[qZU,nH];rfl
 | (j,.spc w (.map es))::r=>by
   show (tH p (kS _ _)&&q3D p (qC r))=_;rw[qZR,nH];rfl
 | (j,.spc w (.iter s pos))::r=>by
   show (tH p (qBT s pos)&&q3D p (qC r))=_;rw[show tH p (qBT s pos)=true from rfl,nH];rfl
 | (j,.spc w (.arr el ik xs))::r=>by
   show (tH p (xs.map fun x=>fvv (.int ik x))&&q3D p (qC r))=_;rw[show (xs.map fun x=>fvv (.int ik x))=(xs.map fun x=>FV.v (.int ik x)).map .f by rw[zQJ];rfl,qWB,nH];rfl
def q9X (nm:Nm)(j:FuncId)(env:List SV)(h:SH):Bool:=tH (inB (nm.b+wid nm.b*1000*(j+1))) (qB env)&&(((qC h.l).all fun x=>!inB (nm.b+wid nm.b*1000*(j+1)) x.1||nm.p x.1)&&q3Q (zDH (nm.b+wid nm.b*1000*(j+1))) h.l)
theorem qOC {j:FuncId}{h:SH}:q9X nm j env h=q3V nm j (qB env) (qC h.l):=by
 unfold q9X q3V;rw[nH]
def q6N (nm:Nm)(g:FuncId)(env:List SV)(h:SH)(k:FuncId->zEP R):zEP R :=
 cond (q9X nm g env h) (k g) (cond (q9X nm (g+333) env h) (k (g+333)) (cond (q9X nm (g+666) env h) (k (g+666)) (k g)))
theorem qZN {h:SH}{k:FuncId->zEP R}:q6N nm g env h k=k (qLV nm g (qB env) (qC h.l)):=by
 unfold q6N qLV;rw[qOC,qOC,qOC];cases q3V nm g (qB env) (qC h.l)
 ·cases q3V nm (g+333) (qB env) (qC h.l)
  ·cases q3V nm (g+666) (qB env) (qC h.l) <;> rfl
  ·rfl
 ·rfl
def q3X (P:Program)(T:zQ)(CI:CIT)(Y:YI Γ)(nm:Nm)(f:SV)(args:List SV)(g:Γ)(env:List SV)(h:SH)(K:Γ->SV->SH->zEP R):zEP R:=match f with
 | .yv=>(match vV P Y.yt Y.ys args h with
   | some (y,h1)=>.bind (Y.stp g y) fun p=>K p.1 (.d .bool p.2) h1
   | none=>.fail)
 | f=>(match rZ f args with
   | some (t,as)=>cond (slT t T).isSome (qR5 P T false t as h (K g)) (q6N nm t env h fun j=>CI R (qWT nm j) t as h fun v h2=>cond (qPM (qWT nm j).p env h2.l) (K g v h2) .fail)
   | none=>.fail)
def q3P (P:Program)(T:zQ)(CI:CIT)(Y:YI Γ)(nm:Nm)(o:Oper)(g:Γ)(env:List SV)(h:SH)(K:Γ->SV->SH->zEP R):zEP R:=match o.op with
 | .call ⟨.value f,args,_⟩=>q3X P T CI Y nm (kD env f) (eH env args) g env h K
 | _=>zCE P o env (qH nm o.dst) h (K g)
def YOk (P:Program)(G:Nat->Bool)(w:Wld Γ)(Y:YI Γ):Prop:=∀ g y g' b,Y.stp g y=some (g',b)->qKG P G w Yl.l g (pvL Y.ys y) g' b
end
theorem qIJ {T:zQ}(ht:qPF tab T){o:Oper}{K:SV->SH->zEP R}(ho:OkH P h)(he:okL h env)(e:(q2U P T true k o env h K).run=some r) :
 ∃ v h',zK P tab k o (qB env) (qC h.l)=.ok v.enc (qC h'.l)∧Post P h h' v∧(K v h').run=some r:=by
 unfold q2U at e;unfold zK;split at e
 ·rename_i f args ts hop;unfold q3L at e;split at e
  ·rename_i g as hst;obtain⟨h1,h2⟩:=dR (mW he f) (fM he args) hst;obtain⟨v,h',a1,a2,a3⟩:=qYS ht ho h2 e;refine⟨v,h',?_,a2,a3⟩;simp only[hop,qO,gM,h1];exact a1
  ·cases e
 ·rename_i hne;obtain⟨v,h',a1,a2,a3⟩:=q4D ho he e;refine⟨v,h',?_,a2,a3⟩;split
  ·rename_i f args ts hop;exact absurd hop (hne f args ts)
  ·rw[a1];rfl
end
end Go.Sv
namespace Go.Sv
open Go.Idl
variable {d:Option Tmp}{el:TypeId}{env:List SV}{h:SH}{o:Oper}{t:Ty}{v x:SV}
noncomputable section
variable [Gc]
variable [Frs]
variable [Yl]
variable {P:Program}{R:Type}{r:R}{tab:uW}{G:Nat->Bool}{nm:Nm}
omit [Yl] in
theorem zE2 {Q Q':List PV->PHp->Prop}(hq:∀ e p,Q e p->Q' e p):∀ {t:PT},t.holds P G Q->t.holds P G Q'
 | .fail,h=>h.elim
 | .ret e p,h=>hq e p h
 | .chk c t,h=>⟨h.1,zE2 hq h.2⟩
 | .call nm g args ph k,h=>by
   obtain⟨R,h1,h2⟩:=h;exact⟨R,h1,fun v p hr=>zE2 hq (h2 v p hr)⟩
 | .rnd _ _ _ _,h=>h.elim
omit [Yl] in
theorem qWH (k:Nat):∀ (cs:List FV),z8 k (cs.map .f)=true
 | []=>by simp[z8]
 | c::cs=>by simp[z8,noK,qWH k cs]
def qFO (k:Nat):List (Nat×SO)->Bool
 | []=>true
 | (_,.cells _ _ l)::r=>z8 k (qB l)&&qFO k r
 | (_,.list _ _ _ _ _ _)::r=>qFO k r
 | (_,.spc _ (.mit _ j _ _ _))::r=>!(k==j)&&qFO k r
 | (_,.spc _ (.map _))::r=>qFO k r
 | (_,.spc _ (.iter _ _))::r=>qFO k r
 | (_,.spc _ (.arr _ _ _))::r=>qFO k r
theorem qUG (k:Nat):∀ (l:List Nat),z8 k (l.map iv)=true
 | []=>by simp[z8]
 | c::cs=>by
   show (true&&z8 k (cs.map iv))=true;rw[qUG k cs];rfl
theorem q1S (k j si la:Nat)(seen:List Nat):z8 k (qHM (.mp j) si la seen)=!(k==j):=by
 show (!(k==j)&&(true&&(true&&(z8 k (seen.map iv)&&true))))=_;rw[qUG];simp
theorem jU {k:Nat}:∀ {l:List (Nat×SO)},qFO k l=true->aK k (qC l)=true
 | [],_=>rfl
 | (j,.cells el w l)::r,h=>by
   simp only[qFO,zN8] at h;show (z8 k (qB l)&&aK k (qC r))=true;rw[h.1,jU h.2];rfl
 | (j,.list el gr g w t xs)::r,h=>by
   simp only[qFO] at h;show (z8 k ((xs.flatMap t.cells).map .f)&&aK k (qC r))=true;rw[qWH,jU h];rfl
 | (j,.spc w (.mit t i si la seen))::r,h=>by
   simp only[qFO,zN8] at h;show (z8 k (qHM (.mp i) si la seen)&&aK k (qC r))=true;rw[q1S,h.1,jU h.2];rfl
 | (j,.spc w (.map es))::r,h=>by
   simp only[qFO] at h;show (z8 k (kS _ _)&&aK k (qC r))=true;rw[aP,jU h];rfl
 | (j,.spc w (.iter s pos))::r,h=>by
   simp only[qFO] at h;show (z8 k (qBT s pos)&&aK k (qC r))=true;rw[show z8 k (qBT s pos)=true from rfl,jU h];rfl
 | (j,.spc w (.arr el ik xs))::r,h=>by
   simp only[qFO] at h;show (z8 k (xs.map fun x=>fvv (.int ik x))&&aK k (qC r))=true;rw[show (xs.map fun x=>fvv (.int ik x))=(xs.map fun x=>FV.v (.int ik x)).map .f by rw[zQJ];rfl,qWH,jU h];rfl
def eG (env:List SV)(d:Option Tmp)(v:SV):List SV:=match d with
 | some t=>yQ env t v
 | none=>env
theorem kF (env:List SV)(t:Nat)(v:SV):qB (yQ env t v)=yQ (qB env) t v.enc:=by
 rw[qW,qW,zF,zF,List.map_set]
theorem jD (env:List SV)(d:Option Tmp)(v:SV):qB (eG env d v)=yK (qB env) d v.enc:=by
 cases d with
 | none=>rfl
 | some t=>exact kF env t v
omit [Yl] in
theorem xC {t:Nat}(he:okL h env)(hv:v.ok h):okL h (yQ env t v):=by
 rw[qW]
 exact zI.2 fun x hx=>by
  rcases zRY hx with q | q
  ·exact zI.1 he x q
  ·rw[q];exact hv
omit [Yl] in
theorem wN (he:okL h env)(hv:v.ok h):okL h (eG env d v):=by
 cases d with
 | none=>exact he
 | some t=>exact xC he hv
omit [Yl] in
theorem jZ (env:List SV)(t:Nat)(v:SV):(yQ env t v).length=env.length:=by rw[qW,zP1]
omit [Yl] in
theorem q0Q (env:List SV)(d:Option Tmp)(v:SV):(eG env d v).length=env.length:=by
 cases d with
 | none=>rfl
 | some t=>exact jZ env t v
theorem qQ3 {t:Nat}{w:SV}(h1:zH env t=some v)(h2:w.enc=v.enc):qB (yQ env t w)=qB env:=by
 rw[kF,qW];rw[qF] at h1;apply zPR;intro i;rw[zO4];by_cases e:t=i
 ·subst e;rw[if_pos rfl,zF,zOO,h1,zOK,if_pos (zOE.1 h1).1,h2];rfl
 ·rw[if_neg e]
def yC (b w:Bool):Bool:=cond w b (!b)
omit [Yl] in
theorem qPV (b w:Bool):yC b w=(b==w):=by cases b <;> cases w <;> rfl
def qCV (ds:List (Option Tmp))(o:Oper)(env:List SV)(Y N:List SV->zEP R):zEP R:=match o.guard with
 | none=>Y env
 | some (j,w)=>(match qSD ds j with
   | none=>N env
   | some t=>(match zH env t with
     | none=>.fail
     | some v=>(match asB v with
       | some b=>.ite (yC b w) (Y (yQ env t (.c (.bool w)))) (N (yQ env t (.c (.bool (!w)))))
       | none=>(match v with
         | .tup []=>N env
         | _=>.fail))))
theorem p8 {ds:List (Option Tmp)}{Y N:List SV->zEP R}(he:okL h env)(e:(qCV ds o env Y N).run=some r) :
 ∃ env',qB env'=qB env∧okL h env'∧env'.length=env.length∧((vM ds o (qB env)=some true∧(Y env').run=some r)∨(vM ds o (qB env)=some false∧(N env').run=some r)):=by
 unfold qCV at e;unfold vM;split at e
 ·rename_i hg;exact⟨env,rfl,he,rfl,.inl ⟨by rw[hg],e⟩⟩
 ·rename_i j w hg;rw[hg];simp only;split at e
  ·rename_i hd;exact⟨env,rfl,he,rfl,.inr ⟨by rw[hd];rfl,e⟩⟩
  ·rename_i t hd;rw[hd];simp only[qL4,qV];split at e
   ·cases e
   ·rename_i v hv;rw[hv];split at e
    ·rename_i b hb;have hbe:=sD hb
     rcases run_ite e with ⟨z,e1⟩ | ⟨z,e1⟩
     ·rw[qPV] at z;have:b=w:=by simpa using z
      subst this;refine⟨_,qQ3 hv (by rw[hbe];simp[SV.enc]),xC he (by simp[SV.ok]),jZ _ _ _,.inl ⟨?_,e1⟩⟩;simp only[zOM,hbe,qCZ,z]
     ·rw[qPV] at z
      have:b=!w:=by cases b <;> cases w <;> first | rfl | cases z
      refine⟨_,qQ3 hv (by rw[hbe,this];simp[SV.enc]),xC he (by simp[SV.ok]),jZ _ _ _,.inr ⟨?_,e1⟩⟩;simp only[zOM,hbe,qCZ,z]
    ·split at e
     ·exact⟨env,rfl,he,rfl,.inr ⟨by simp only[zOM,SV.enc,qB];exact qRY,e⟩⟩
     ·cases e
def qE3 (nm:Nm)(k:Nat)(env:List SV)(h:SH):Bool:=inP nm k&&(z8 k (qB env)&&qFO k h.l)
section
variable {Γ:Type}
def qY8 (P:Program)(T:zQ)(CI:CIT)(Y:YI Γ)(nm:Nm)(ds:List (Option Tmp)):List Oper->Γ->List SV->SH->(Γ->List SV->SH->zEP R)->zEP R
 | [],g,env,h,K=>K g env h
 | o::l,g,env,h,K=>qCV ds o env
    (fun env=>cond (cond (needs o.op) (qE3 nm (qH nm o.dst) env h) true) (q3P P T CI Y nm o g env h fun g v h'=>qY8 P T CI Y nm ds l g (eG env o.dst v) h' K) .fail)
    (fun env=>qY8 P T CI Y nm ds l g (eG env o.dst (.tup [])) h K)
end
def Ends (P:Program)(w:List (Option Tmp))(env:List SV)(h:SH)(env':List SV)(h':SH):Prop :=
 okL h' env'∧OkH P h'∧Keep h h'∧(∀ i,some i ∉ w->zH (qB env') i=zH (qB env) i)∧env'.length=env.length
theorem q65 {i:Nat}(h:d≠some i):zH (qB (eG env d v)) i=zH (qB env) i:=by
 cases d with
 | none=>rfl
 | some t =>
   show zH (qB (yQ env t v)) i=_;rw[kF,qW,qF,qF,zO4,if_neg (fun e=>h (by rw[e]))]
theorem Ends.step {w:List (Option Tmp)}{zEU:List SV}{h1:SH}{env':List SV}{h':SH}(he:qB env=qB zEU)(hl:env.length=zEU.length)(hk:Keep h h1)(x:Ends P w (eG env o.dst v) h1 env' h'):Ends P (o.dst::w) zEU h env' h' :=
 ⟨x.1,x.2.1,hk.trans x.2.2.1,fun i hi=>by
   rw[zOS,not_or] at hi
   rw[x.2.2.2.1 i hi.2,q65 (fun e=>hi.1 e.symm),he],by rw[x.2.2.2.2,q0Q,hl]⟩
omit [Yl] in
theorem kR {Γ:Type}{w:Wld Γ}{Q Q':Γ->List PV->PHp->Prop}(hq:∀ g e p,Q g e p->Q' g e p):∀ {t:PT} {g:Γ},t.zFP P G w Q g->t.zFP P G w Q' g
 | .fail,_,h=>h.elim
 | .ret e p,g,h=>hq g e p h
 | .chk c t,g,h=>⟨h.1,kR hq h.2⟩
 | .call nm f args ph k,g,h=>by
   obtain⟨R,h1,h2⟩:=h;exact⟨R,h1,fun v p hr=>kR hq (h2 v p hr)⟩
 | .rnd l args ph k,g,h=>by
   obtain⟨zFW,tys,ph1,g',b,h1,h2,h3⟩:=h;exact⟨zFW,tys,ph1,g',b,h1,h2,kR hq h3⟩
def q0R (T:zQ)(f:FuncId):Bool:=!(slT f T).isSome
theorem qHF {Γ:Type}{w:Wld Γ}{T:zQ}{CI:CIT}{Y:YI Γ}(ht:qPF tab T)(hci:qTY P G CI)(hy:YOk P G w Y){ds:List (Option Tmp)}:∀ {l:List Oper} {g:Γ} {env:List SV} {h:SH} {K:Γ->List SV->SH->zEP R},OkH P h->okL h env->(qY8 P T CI Y nm ds l g env h K).run=some r ->
 (pops P tab (q0R T) nm ds l (qB env) (qC h.l)).zFP P G w (fun g e p=>∃ env' h',e=qB env'∧p=qC h'.l∧Ends P (l.map (·.dst)) env h env' h'∧(K g env' h').run=some r) g
 | [],g,env,h,K,ho,he,e=>⟨env,h,rfl,rfl,⟨he,ho,.refl _,fun _ _=>rfl,rfl⟩,e⟩
 | o::l,g,env,h,K,ho,he,e=>by
   unfold qY8 at e;obtain⟨zEV,q1,q2,q3,q4⟩:=p8 he e;rw[qU0]
   rcases q4 with ⟨hw,e1⟩ | ⟨hw,e1⟩
   ·rw[hw,q0D];obtain⟨c,e2⟩:=qE e1
    have next:∀ {g':Γ} {v:SV} {h':SH},Post P h h' v->(qY8 P T CI Y nm ds l g' (eG zEV o.dst v) h' K).run=some r->(pops P tab (q0R T) nm ds l (yK (qB env) o.dst v.enc) (qC h'.l)).zFP P G w (fun g e p=>∃ env' h',e=qB env'∧p=qC h'.l∧Ends P ((o::l).map (·.dst)) env h env' h'∧(K g env' h').run=some r) g':=fun {g' v h'} a2 a3=>by
     have ih:=qHF ht hci hy a2.2.1 (wN (d:=o.dst) (qJ a2.1 q2) a2.2.2) a3;rw[jD,q1] at ih;exact kR (fun g e p ⟨env',h',b1,b2,b3,b4⟩=>⟨env',h',b1,b2,Ends.step q1 q3 a2.1 b3,b4⟩) ih
    have chk:∀ {g':Γ} {v:SV} {h':SH},Post P h h' v->(qY8 P T CI Y nm ds l g' (eG zEV o.dst v) h' K).run=some r->(q8N (needs o.op) (qH nm o.dst) nm (qB env) (qC h.l) (pops P tab (q0R T) nm ds l (yK (qB env) o.dst v.enc) (qC h'.l))).zFP P G w (fun g e p=>∃ env' h',e=qB env'∧p=qC h'.l∧Ends P ((o::l).map (·.dst)) env h env' h'∧(K g env' h').run=some r) g':=fun {g' v h'} a2 a3=>by
     unfold q8N
     cases hn:needs o.op with
     | false=>exact next a2 a3
     | true =>
       rw[hn] at c;simp only[cond_true] at c ⊢;refine⟨?_,next a2 a3⟩;unfold qE3 at c;rw[q1] at c;simp only[zN8] at c;unfold fresh;rw[c.1,c.2.1,jU c.2.2];rfl
    unfold q3P at e2;split at e2
    ·rename_i f args ts hop
     have hpe:aY P tab (q0R T) (qH nm o.dst) o (qB env) (qC h.l)=oZ P tab (q0R T) (kD zEV f).enc (qB (eH zEV args)) (qC h.l):=by
      unfold aY;rw[<-q1];simp only[hop,qO,gM]
     rw[hpe];have hfv:=mW q2 f;have has:=fM q2 args
     revert e2 hfv
     generalize kD zEV f=fv;intro e2 hfv;unfold q3X at e2;split at e2
     ·split at e2
      ·rename_i y h1 hd;obtain⟨p,hp,e3⟩:=run_bind e2;obtain⟨g',b⟩:=p;obtain⟨ys,a1,a2,a3,a4⟩:=cZ ho has hd
       have:oZ P tab (q0R T) (SV.enc .yv) (qB (eH zEV args)) (qC h.l)=.rnd Yl.l (qB (eH zEV args)) (qC h.l):=by
        simp only[SV.enc,oZ]
       rw[this,qVY];refine⟨ys,Y.yt,qC h1.l,g',b,a1,?_,?_⟩
       ·rw[a2];exact hy _ _ _ _ hp
       ·have:=next (v:=.d .bool b) ⟨a3,a4,by simp[SV.ok]⟩ e3;simpa [SV.enc,Ty.fv,fvv] using this
      ·cases e2
     ·split at e2
      ·rename_i t as hst;obtain⟨h1,h2⟩:=dR hfv has hst;rw[qIU h1];unfold mG q0R
       cases hsl:(slT t T).isSome with
       | true =>
         rw[hsl] at e2;simp only[cond_true] at e2;obtain⟨v,h',a1,a2,a3⟩:=qZZ ht ho h2 e2;simp only[zR9,cond_false];rw[a1,qP2];exact chk a2 a3
       | false =>
         rw[hsl] at e2;simp only[cond_false] at e2;simp only[Bool.not_false,cond_true];rw[qS3];rw[qZN,q1] at e2;refine⟨_,hci _ _ _ _ _ _ ho h2 e2,?_⟩;rintro v p ⟨v',h',rfl,rfl,a2,a3⟩;obtain⟨c2,a4⟩:=qE a3;have:=qJG c2;rw[q1] at this;exact⟨this,next a2 a4⟩
      ·cases e2
    ·rename_i hne;obtain⟨v,h',a1,a2,a3⟩:=q62 ho q2 e2;rw[q1] at a1
     have hpe:aY P tab (q0R T) (qH nm o.dst) o (qB env) (qC h.l)=.ok v.enc (qC h'.l):=by
      unfold aY;split
      ·rename_i f args ts hop;exact absurd hop (hne f args ts)
      ·rw[a1];rfl
     rw[hpe,qP2];exact chk a2 a3
   ·rw[hw,qUO];have ih:=qHF ht hci hy ho (wN (d:=o.dst) (v:=.tup []) q2 (by simp[SV.ok,okL])) e1;rw[jD,q1] at ih;simp only[SV.enc,qB] at ih;exact kR (fun g e p ⟨env',h',b1,b2,b3,b4⟩=>⟨env',h',b1,b2,Ends.step q1 q3 (.refl _) b3,b4⟩) ih
def qVL (P:Program)(T:zQ)(nm:Nm)(ds:List (Option Tmp))(b:DB)(zEU:List SV):Nat->List Oper->List SV->SH->List (Nat×List Nat)->List (Nat×List Nat)->List (Nat×Nat)->List (Nat×PV)->(List SV->SH->zEP R)->zEP R
 | i,[],env,h,E,F,N,V,K=>cond (mX b (qB zEU) E F N V) (K env h) .fail
 | i,o::l,env,h,E,F,N,V,K=>qCV ds o env
    (fun env=>cond (cond (needs o.op) (inP nm (qH nm o.dst)&&qFO (qH nm o.dst) h.l) true) (q2U P T true (qH nm o.dst) o env h fun v h' =>
      qVL P T nm ds b zEU (i+1) l (eG env o.dst v) h' (cond (zA o) ((i,wlT nm o (qB env))::E) E) (cond (zA o) F ((i,dlT o (qB env))::F)) (cond (needs o.op) ((i,qH nm o.dst)::N) N) ((i,v.enc)::V) K) .fail)
    (fun env=>qVL P T nm ds b zEU (i+1) l (eG env o.dst (.tup [])) h E F N ((i,.tup [])::V) K)
theorem qGV {T:zQ}(ht:qPF tab T){ds:List (Option Tmp)}{b:DB}{zEU:List SV}:∀ {l:List Oper} {i:Nat} {env:List SV} {h:SH} {E F:List (Nat×List Nat)} {N:List (Nat×Nat)} {V:List (Nat×PV)} {K:List SV->SH->zEP R},OkH P h->okL h env->(qVL P T nm ds b zEU i l env h E F N V K).run=some r ->
 (qLR P tab nm ds b (qB zEU) i l (qB env) (qC h.l) E F N V).holds P G fun e p=>∃ env' h',e=qB env'∧p=qC h'.l∧Ends P (l.map (·.dst)) env h env' h'∧(K env' h').run=some r
 | [],i,env,h,E,F,N,V,K,ho,he,e=>by
   unfold qVL at e;obtain⟨c,e1⟩:=qE e;rw[q1K];exact⟨c,env,h,rfl,rfl,⟨he,ho,.refl _,fun _ _=>rfl,rfl⟩,e1⟩
 | o::l,i,env,h,E,F,N,V,K,ho,he,e=>by
   unfold qVL at e;obtain⟨zEV,q1,q2,q3,q4⟩:=p8 he e;rw[qWD]
   rcases q4 with ⟨hw,e1⟩ | ⟨hw,e1⟩
   ·rw[hw,qT9];obtain⟨c,e2⟩:=qE e1;obtain⟨v,h',a1,a2,a3⟩:=qIJ ht ho q2 e2;rw[q1] at a1;rw[a1,qXL];have ih:=qGV ht a2.2.1 (wN (d:=o.dst) (qJ a2.1 q2) a2.2.2) a3;rw[jD,q1] at ih;have ih2:=zE2 (Q':=fun e p=>∃ env' h',e=qB env'∧p=qC h'.l∧Ends P ((o::l).map (·.dst)) env h env' h'∧(K env' h').run=some r) (fun e p ⟨env',h',b1,b2,b3,b4⟩=>⟨env',h',b1,b2,Ends.step q1 q3 a2.1 b3,b4⟩) ih;unfold qCP
    cases hn:needs o.op with
    | false=>rw[hn] at ih2;exact ih2
    | true =>
      rw[hn] at c ih2;simp only[cond_true] at c ⊢;refine⟨?_,ih2⟩;rw[zN8] at c;rw[c.1,jU c.2];rfl
   ·rw[hw,qS0];have ih:=qGV ht ho (wN (d:=o.dst) (v:=.tup []) q2 (by simp[SV.ok,okL])) e1;rw[jD,q1] at ih;simp only[SV.enc,qB] at ih;exact zE2 (fun e p ⟨env',h',b1,b2,b3,b4⟩=>⟨env',h',b1,b2,Ends.step q1 q3 (.refl _) b3,b4⟩) ih
def qIQ (R:List Nat)(l:List (Nat×SO)):List (Nat×SO):=R.filterMap fun k=>(slk k l).map fun o=>(k,o)
theorem qC9 {l:List (Nat×SO)}:∀ (R:List Nat),qC (qIQ R l)=bG R (qC l)
 | []=>rfl
 | k::R=>by
   have ih:=qC9 (l:=l) R;unfold qIQ bG at ih ⊢;rw[zSQ,zSQ,vI]
   cases hk:slk k l with
   | none=>simp only[zSM];exact ih
   | some o =>
     simp only[zOM];show (k,o.enc)::qC _=_;rw[ih]
def zC8 (b:Array Nat)(h0:List (Nat×SO))(zEU:List PV)(E F:List (Nat×List Nat))(N:List (Nat×Nat))(V:List (Nat×PV))(O:List (Nat×List (Nat×SO))):Bool :=
 (E.all fun e=>(E++F).all fun f=>Nat.beq e.1 f.1||(qO5 b e.1 f.1||f.2.all fun l=>!e.2.contains l)) &&
   N.all fun n=>z8 n.2 zEU&&(qFO n.2 h0&&((V.all fun v=>Nat.beq v.1 n.1||(vQ b n.1 v.1||noK n.2 v.2))&&O.all fun c=>Nat.beq c.1 n.1||(vQ b n.1 c.1||qFO n.2 c.2)))
def q1L (O:List (Nat×List (Nat×SO))):List (Nat×PHp):=O.map fun c=>(c.1,qC c.2)
theorem q5H {b:Array Nat}{h0:List (Nat×SO)}{zEU:List PV}{E F:List (Nat×List Nat)}{N:List (Nat×Nat)}{V:List (Nat×PV)}{O:List (Nat×List (Nat×SO))}(h:zC8 b h0 zEU E F N V O=true):q8D b (qC h0) zEU E F N V (q1L O)=true:=by
 unfold zC8 at h;unfold q8D;rw[zN8] at h ⊢;refine⟨h.1,zOB.2 fun n hn=>?_⟩;have h2:=zOB.1 h.2 n hn;rw[zN8,zN8,zN8] at h2 ⊢;refine⟨h2.1,jU h2.2.1,h2.2.2.1,zOB.2 fun c hc=>?_⟩;obtain⟨c0,hc0,rfl⟩:=zOZ.1 hc;have h3:=zOB.1 h2.2.2.2 c0 hc0;rw[zPB,zPB] at h3 ⊢;rcases h3 with h | h | h
 ·exact .inl h
 ·exact .inr (.inl h)
 ·exact .inr (.inr (jU h))
def q0L (l:List (Nat×SO)):PV->Bool
 | .own k _ _ _=>(match slk k l with
   | some (.list _ _ _ _ _ _)=>true
   | _=>false)
 | x=>qK5 x
theorem qPC {l:List (Nat×SO)}{x:PV}(h:q0L l x=true):qJ5 (qC l) x=true:=by
 cases x with
 | own k t o n =>
   unfold q0L at h;unfold qJ5;simp only at h ⊢;rw[vI];split at h
   ·rename_i el gr g w u xs hk;rw[hk];simp only[zOM];show (((List.flatMap u.cells xs).map PV.f).all qTE)=true;rw[zOB];intro z hz;obtain⟨y,_,rfl⟩:=zOZ.1 hz;rfl
   ·cases h
 | _=>exact h
def qWN (o:Oper)(env:List PV):Bool:=match o.op with
 | .call ⟨.value f,args,_⟩=>(match target (qK env f) (args.toList.map (qK env)) with
   | some (g,_)=>(match Frs.fr g with
     | none=>true
     | some _=>false)
   | none=>true)
 | _=>true
theorem qZ5 {env:List PV}(h:qWN o env=true):pfr o env=none:=by
 cases hp:pfr o env with
 | none=>rfl
 | some q =>
   obtain⟨el,n,cs⟩:=q;obtain⟨f,args,ts,g,hop,ht,hg⟩:=qME hp;unfold qWN at h;rw[hop] at h;simp only[ht,hg] at h;cases h
def sfr (o:Oper)(env:List SV):Option SV:=match o.op with
 | .call ⟨.value f,args,_⟩=>(match rZ (kD env f) (eH env args) with
   | some (g,[.d (.list el t) xs])=>(match Frs.fr g with
     | some el'=>cond (Nat.beq el el') (some (.d (.list el t) xs)) none
     | none=>none)
   | _=>none)
 | _=>none
theorem zAQ (he:okL h env)(e:sfr o env=some x):∃ el t,∃ xs:List (Ty.sem t),x=.d (.list el t) xs∧pfr o (qB env)=some (el,xs.length,xs.flatMap t.cells):=by
 unfold sfr at e;split at e
 case h_2=>cases e
 rename_i f args ts hop;split at e
 case h_2=>cases e
 rename_i g el t xs hst;split at e
 case h_2=>cases e
 rename_i el' hg
 cases hc:Nat.beq el el' with
 | false=>rw[hc] at e;cases e
 | true =>
   rw[hc] at e;cases e;obtain⟨h1,_⟩:=dR (mW he f) (fM he args) hst;refine⟨el,t,xs,rfl,?_⟩;unfold pfr;rw[hop];simp only[qO,gM,h1,qB,SV.enc,Ty.fv,hg,hc,cond_true]
def frT (P:Program)(el:TypeId)(w:Nat)(t:Ty):Bool:=match szT P el,t with
 | some (s+1),.int k=>Nat.beq w (s+1)&&(jA P el&&decide (k=Frs.fk))
 | _,_=>false
theorem qV5 {k:IntKind}:∀ (xs:List Int),(List.flatMap (Ty.int k).cells xs).all (isK k)=true
 | []=>rfl
 | x::xs=>by
   rw[zO1,zRX,qV5 xs];simp[Ty.cells,isK]
theorem qVT {xs:List t.sem}(h:frT P el t.w t=true)(hn:Nat.ble xs.length 1048576=true):qLW P el xs.length (xs.flatMap t.cells)=true:=by
 unfold frT at h;unfold qLW;split at h
 ·rename_i s k hs;rw[zN8,zN8] at h;have hw:=zN9 h.1;have hk:k=Frs.fk:=of_decide_eq_true h.2.2;subst hk;rw[hs];have h1:(List.flatMap (Ty.int Frs.fk).cells xs).length=xs.length*(s+1):=by rw[zV,hw]
  have h2:(List.flatMap (Ty.int Frs.fk).cells xs).all (isK Frs.fk)=true:=qV5 xs;show (Nat.beq (xs.length*(s+1)) (List.flatMap (Ty.int Frs.fk).cells xs).length&&(Nat.ble xs.length 1048576&&(jA P el&&(List.flatMap (Ty.int Frs.fk).cells xs).all (isK Frs.fk))))=true;rw[h1,h2,hn,h.2.1,zSG];rfl
 ·cases h
theorem zB8 {w:Nat}(h:frT P el w t=true):szT P el=some w∧0 < w:=by
 unfold frT at h;split at h
 ·rename_i s k hs;rw[zN8] at h;have hw:=zN9 h.1;rw[hw];exact⟨hs,Nat.succ_pos _⟩
 ·cases h
def zDA (P:Program)(el:TypeId)(t:Ty)(v:SV)(h:SH):Option SV:=match v with
 | .own k g _=>(match q2P el t k g (fun xs=>xs) h with
   | some (xs,_)=>some (.d (.list el t) xs)
   | none=>none)
 | .sl k g _ o m=>(match q2P el t k g (fun xs=>(xs.drop o).take m) h with
   | some (xs,_)=>some (.d (.list el t) xs)
   | none=>none)
 | _=>none
def scp (P:Program)(o:Oper)(env:List SV)(h:SH):Option SV:=match o.op with
 | .call ⟨.value f,args,_⟩=>(match rZ (kD env f) (eH env args) with
   | some (g,[v])=>(match Frs.fr g with
     | some el=>(match qBA P 8 el with
       | some t=>zDA P el t v h
       | none=>none)
     | none=>none)
   | _=>none)
 | _=>none
theorem q8B {t:Ty}(ho:OkH P h)(hv:v.ok h)(e:zDA P el t v h=some x):∃ xs:List t.sem,x=.d (.list el t) xs∧(∃ ph1,fzA P [v.enc] (qC h.l)=some ([.f (.l el xs.length (xs.flatMap t.cells))],ph1))∧∃ k t' o n,v.enc=.own k t' o n:=by
 have key:∀ {k n o m:Nat} {xs:List t.sem} {ph1:PHp},fz1 P 4 (qC h.l) (.own k n o m)=some ((Ty.list el t).fv xs,ph1)->fzA P [.own k n o m] (qC h.l)=some ([.f (.l el xs.length (xs.flatMap t.cells))],ph1):=fun {k n o m xs ph1} hz=>by
  unfold fzA fzP;simp only[hz,fzA];rfl
 unfold zDA at e;split at e
 ·rename_i k g n;split at e
  ·rename_i xs h' hd;cases e;simp only[SV.ok] at hv;obtain⟨h1,_⟩:=qHX (ty:=0) (n:=n) (o:=0) (m:=n) ho hv (by omega) (fun xs hl=>by rw[zPU,<-hl,zRD]) hd;exact⟨xs,rfl,⟨_,by simp only[SV.enc];exact key h1⟩,_,_,_,_,by simp only[SV.enc];rfl⟩
  ·cases e
 ·rename_i k g n o m;split at e
  ·rename_i xs h' hd;cases e;simp only[SV.ok] at hv;obtain⟨h1,_⟩:=qHX (ty:=0) (n:=n) (o:=o) (m:=m) ho hv.1 hv.2 (fun xs hl=>rfl) hd;exact⟨xs,rfl,⟨_,by simp only[SV.enc];exact key h1⟩,_,_,_,_,by simp only[SV.enc];rfl⟩
  ·cases e
 ·cases e
theorem zAU (ho:OkH P h)(he:okL h env)(e:scp P o env h=some x):∃ el t,∃ xs:List (Ty.sem t),x=.d (.list el t) xs∧pfr o (qB env)=none∧(∃ f args ts,o.op=.call ⟨.value f,args,ts⟩) ∧
 (qLW P el xs.length (xs.flatMap t.cells)=true->pcp P o (qB env) (qC h.l)=some (.l el xs.length (xs.flatMap t.cells))):=by
 unfold scp at e;split at e
 case h_2=>cases e
 rename_i f args ts hop;split at e
 case h_2=>cases e
 rename_i g v hst;split at e
 case h_2=>cases e
 rename_i el hg;split at e
 case h_2=>cases e
 rename_i t ht;obtain⟨h1,h2⟩:=dR (mW he f) (fM he args) hst;simp only[okL] at h2;obtain⟨xs,rfl,⟨ph1,hz⟩,k,t',o',n',hv⟩:=q8B ho h2.1 e
 have htg:target (qK (qB env) f) (args.toList.map (qK (qB env)))=some (g,[v.enc]):=by
  simp only[qO,gM,h1,qB]
 refine⟨el,t,xs,rfl,?_,⟨f,args,ts,hop⟩,fun hfo=>?_⟩
 ·unfold pfr;rw[hop];simp only[htg,hv]
 ·unfold pcp;rw[hop];simp only[htg,hg,hz];unfold zBI;simp only[hfo,show Nat.beq el el=true by simp,zO5,cond_true]
theorem qZX {env:List PV}{ph:PHp}(h:qWN o env=true):pcp P o env ph=none:=by
 cases hq:pcp P o env ph with
 | none=>rfl
 | some y =>
   obtain⟨f,args,ts,g,as,el,n,cs,p1,hop,ht,hg,_⟩:=rU hq;unfold qWN at h;rw[hop] at h;simp only[ht,hg] at h;cases h
def zDJ (ops:Array Oper):Bool:=ops.toList.any fun o=>match o.op with
 | .call ⟨.value (.func g),_,_⟩=>(Frs.fr g).isSome
 | _=>false
def qDG (P:Program)(T:zQ)(nm:Nm)(ds:List (Option Tmp))(b:Array Nat)(zEU:List SV)(h0:SH):Nat->List Oper->List SV->SH->List (Nat×List Nat)->List (Nat×List Nat)->List (Nat×Nat)->List (Nat×PV)->List (Nat×List (Nat×SO))->(List SV->SH->zEP R)->zEP R
 | i,[],env,h,E,F,N,V,O,K=>cond (zC8 b h0.l (qB zEU) E F N V O) (K env h) .fail
 | i,o::l,env,h,E,F,N,V,O,K=>qCV ds o env
    (fun env=>match scp P o env h with
     | some (.d (.list el t) xs)=>cond (frT P el t.w t&&(oM o (qB env)).all (q0L h.l)) (.ite (Nat.ble xs.length 1048576)
        (qDG P T nm ds b zEU h0 (i+1) l (eG env o.dst (.d (.list el t) xs)) h E ((i,dlC o (qB env))::F) N ((i,(SV.d (.list el t) xs).enc)::V) O K) .fail) .fail
     | some _=>.fail
     | none=>match sfr o env with
      | some (.d (.list el t) xs)=>cond (frT P el t.w t&&inP nm (qH nm o.dst)) (.ite (Nat.beq xs.length 0)
         (qDG P T nm ds b zEU h0 (i+1) l (eG env o.dst (.d (.list el t) [])) h E ((i,dlC o (qB env))::F) N ((i,.f (.l el 0 []))::V) O K)
         (.ite (Nat.ble xs.length 1048576)
           (qDG P T nm ds b zEU h0 (i+1) l (eG env o.dst (.own (qH nm o.dst) h.next xs.length)) (h.new (qH nm o.dst) fun v=>.list el true v v t xs) ((i,[qH nm o.dst])::E) F ((i,qH nm o.dst)::N) ((i,.own (qH nm o.dst) xs.length 0 xs.length)::V)
             ((i,qIQ [qH nm o.dst] (h.new (qH nm o.dst) fun v=>.list el true v v t xs).l)::O) K) .fail)) .fail
      | some _=>.fail
      | none=>cond ((qWN o (qB env)&&(okE o||(!zA o||kG o)))&&((oM o (qB env)).all (q0L h.l)&&cond (needs o.op) (inP nm (qH nm o.dst)) true)) (q2U P T true (qH nm o.dst) o env h fun v h' =>
      qDG P T nm ds b zEU h0 (i+1) l (eG env o.dst v) h' (cond (okE o) ((i,RC o (qH nm o.dst) (qB env))::E) E) (cond (okE o) F ((i,dlC o (qB env))::F)) (cond (needs o.op) ((i,qH nm o.dst)::N) N) ((i,v.enc)::V) (cond (okE o) ((i,qIQ (RC o (qH nm o.dst) (qB env)) h'.l)::O) O) K) .fail)
    (fun env=>qDG P T nm ds b zEU h0 (i+1) l (eG env o.dst (.tup [])) h E F N ((i,.tup [])::V) O K)
theorem bT {T:zQ}(ht:qPF tab T){ds:List (Option Tmp)}{b:Array Nat}{zEU:List SV}{h0:SH}:∀ {l:List Oper} {i:Nat} {env:List SV} {h:SH} {E F:List (Nat×List Nat)} {N:List (Nat×Nat)} {V:List (Nat×PV)} {O:List (Nat×List (Nat×SO))} {K:List SV->SH->zEP R},OkH P h->okL h env->(qDG P T nm ds b zEU h0 i l env h E F N V O K).run=some r ->
 (qLC P tab nm ds b (qB zEU) (qC h0.l) i l (qB env) (qC h.l) E F N V (q1L O)).holds P G fun e p=>∃ env' h',e=qB env'∧p=qC h'.l∧Ends P (l.map (·.dst)) env h env' h'∧(K env' h').run=some r
 | [],i,env,h,E,F,N,V,O,K,ho,he,e=>by
   unfold qDG at e;obtain⟨c,e1⟩:=qE e;exact⟨q5H c,env,h,rfl,rfl,⟨he,ho,.refl _,fun _ _=>rfl,rfl⟩,e1⟩
 | o::l,i,env,h,E,F,N,V,O,K,ho,he,e=>by
   unfold qDG at e;obtain⟨zEV,q1,q2,q3,q4⟩:=p8 he e;unfold qLC vL
   rcases q4 with ⟨hw,e1⟩ | ⟨hw,e1⟩
   ·rw[hw];simp only;split at e1
    ·rename_i el t xs hsc;obtain⟨el',t',xs',hx,hpf,⟨f,args,ts,hop⟩,hcp⟩:=zAU ho q2 hsc;cases hx;rw[q1] at hpf hcp;obtain⟨c,e2⟩:=qE e1;rw[zN8] at c
     rcases run_ite e2 with ⟨z,e3⟩ | ⟨_,e3⟩
     ·have hcp:=hcp (qVT c.1 z);have c2:xB o (qB env) (qC h.l)=true:=zOB.2 fun x hx=>qPC (zOB.1 c.2 x (by rw[q1];exact hx))
      have hfr:qD5 o (qB env)=false:=by unfold qD5;rw[hpf]
      have zHE:okF o (qB env)=false:=by unfold okF okE;rw[hop,hfr];rfl
      have zHF:ndF o (qB env)=false:=by unfold ndF needs;rw[hop,hfr];rfl
      rw[sS hpf hcp c2];simp only[zHE,zHF,cond_false];unfold qCP;simp only[cond_false];have ih:=bT ht ho (wN (d:=o.dst) (v:=.d (.list el t) xs) q2 (by simp[SV.ok])) e3;rw[jD,q1] at ih;exact zE2 (Q':=fun e p=>∃ env' h',e=qB env'∧p=qC h'.l∧Ends P ((o::l).map (·.dst)) env h env' h'∧(K env' h').run=some r) (fun e p ⟨env',h',b1,b2,b3,b4⟩=>⟨env',h',b1,b2,Ends.step q1 q3 (.refl _) b3,b4⟩) ih
     ·cases e3
    ·cases e1
    split at e1
    ·rename_i el t xs hsf;obtain⟨el',t',xs',hx,hpf⟩:=zAQ q2 hsf;cases hx;rw[q1] at hpf;obtain⟨c,e2⟩:=qE e1;rw[zN8] at c;obtain⟨p1,p2⟩:=qJ1 hpf
     rcases run_ite e2 with ⟨z,e3⟩ | ⟨z,e3⟩
     ·have z0:xs=[]:=zQX (zN9 z);subst z0;have hfr:qD5 o (qB env)=false:=by unfold qD5;rw[hpf];rfl
      have zHE:okF o (qB env)=false:=by unfold okF;rw[p1,hfr];rfl
      have zHF:ndF o (qB env)=false:=by unfold ndF;rw[p2,hfr];rfl
      rw[nV hpf (qVT c.1 rfl)];simp only[zHE,zHF,cond_false];unfold qCP;simp only[cond_false];have ih:=bT ht ho (wN (d:=o.dst) (v:=.d (.list el t) []) q2 (by simp[SV.ok])) e3;rw[jD,q1] at ih;exact zE2 (Q':=fun e p=>∃ env' h',e=qB env'∧p=qC h'.l∧Ends P ((o::l).map (·.dst)) env h env' h'∧(K env' h').run=some r) (fun e p ⟨env',h',b1,b2,b3,b4⟩=>⟨env',h',b1,b2,Ends.step q1 q3 (.refl _) b3,b4⟩) ih
     ·rcases run_ite e3 with ⟨z2,e4⟩ | ⟨z2,e4⟩
      ·cases hn:xs.length with
       | zero=>rw[hn] at z;cases z
       | succ n =>
       rw[hn] at hpf;have hfr:qD5 o (qB env)=true:=by unfold qD5;rw[hpf]
       have zHE:okF o (qB env)=true:=by unfold okF;rw[hfr,zSO]
       have zHF:ndF o (qB env)=true:=by unfold ndF;rw[hfr,zSO]
       have hRF:RF o (qH nm o.dst) (qB env)=[qH nm o.dst]:=by unfold RF;rw[hfr];rfl
       have hfo:=qVT c.1 z2;rw[hn] at hfo;rw[nV hpf hfo];simp only[zHE,zHF,hRF,cond_true];unfold qCP;simp only[cond_true];have hnw:=xI (k:=qH nm o.dst) (f:=fun v=>.list el true v v t xs) ho ⟨rfl,rfl,zB8 c.1⟩;have ih:=bT ht hnw.2 (wN (d:=o.dst) (v:=.own (qH nm o.dst) h.next xs.length) (qJ hnw.1 q2) (wV rfl)) e4;rw[jD,q1] at ih;have ih2:=zE2 (Q':=fun e p=>∃ env' h',e=qB env'∧p=qC h'.l∧Ends P ((o::l).map (·.dst)) env h env' h'∧(K env' h').run=some r) (fun e p ⟨env',h',b1,b2,b3,b4⟩=>⟨env',h',b1,b2,Ends.step q1 q3 hnw.1 b3,b4⟩) ih
       have eO:q1L ((i,qIQ [qH nm o.dst] (h.new (qH nm o.dst) fun v=>.list el true v v t xs).l)::O)=(i,bG [qH nm o.dst] (qC (h.new (qH nm o.dst) fun v=>.list el true v v t xs).l))::q1L O:=by
        show (i,qC (qIQ _ _))::q1L O=_;rw[qC9]
       rw[eO] at ih2;simp only[SV.enc,hn] at ih2;exact⟨c.2,ih2⟩
      ·cases e4
    ·cases e1
    rename_i hsf;obtain⟨c,e2⟩:=qE e1;rw[zN8,zN8,zN8] at c;have hpf:pfr o (qB env)=none:=by rw[<-q1];exact qZ5 c.1.1
    have hfr:qD5 o (qB env)=false:=by unfold qD5;rw[hpf]
    have zHE:okF o (qB env)=okE o:=by unfold okF;rw[hfr,zRR]
    have zHF:ndF o (qB env)=needs o.op:=by unfold ndF;rw[hfr,zRR]
    have hRF:RF o (qH nm o.dst) (qB env)=RC o (qH nm o.dst) (qB env):=by unfold RF;rw[hfr];rfl
    obtain⟨v,h',a1,a2,a3⟩:=qIJ ht ho q2 e2;rw[q1] at a1;have c2:xB o (qB env) (qC h.l)=true:=zOB.2 fun x hx=>qPC (zOB.1 c.2.1 x (by rw[q1];exact hx))
    rw[pO hpf (qZX (by rw[<-q1];exact c.1.1)) a1 c.1.2 c2];simp only[zHE,zHF,hRF];have ih:=bT ht a2.2.1 (wN (d:=o.dst) (qJ a2.1 q2) a2.2.2) a3;rw[jD,q1] at ih;have ih2:=zE2 (Q':=fun e p=>∃ env' h',e=qB env'∧p=qC h'.l∧Ends P ((o::l).map (·.dst)) env h env' h'∧(K env' h').run=some r) (fun e p ⟨env',h',b1,b2,b3,b4⟩=>⟨env',h',b1,b2,Ends.step q1 q3 a2.1 b3,b4⟩) ih
    have eO:q1L (cond (okE o) ((i,qIQ (RC o (qH nm o.dst) (qB env)) h'.l)::O) O)=cond (okE o) ((i,bG (RC o (qH nm o.dst) (qB env)) (qC h'.l))::q1L O) (q1L O):=by
     cases okE o with
     | false=>rfl
     | true =>
       show (i,qC (qIQ _ _))::q1L O=_;rw[qC9];rfl
    rw[eO] at ih2;unfold qCP
    cases hn:needs o.op with
    | false=>rw[hn] at ih2;exact ih2
    | true =>
      have c3:=c.2.2;rw[hn] at c3 ih2;simp only[cond_true] at c3 ⊢;exact⟨c3,ih2⟩
   ·rw[hw];simp only;have ih:=bT ht ho (wN (d:=o.dst) (v:=.tup []) q2 (by simp[SV.ok,okL])) e1;rw[jD,q1] at ih;simp only[SV.enc,qB] at ih;exact zE2 (fun e p ⟨env',h',b1,b2,b3,b4⟩=>⟨env',h',b1,b2,Ends.step q1 q3 (.refl _) b3,b4⟩) ih
def qOQ (ops:Array Oper):Bool:=match ops[ops.size - 1]? with
 | some o=>(match o.op with
   | .call ⟨.value _,_,_⟩=>(List.range (ops.size - 1)).all fun i=>vQ (Region.before ops) i (ops.size - 1)
   | _=>false)
 | none=>false
def zC2 {Γ:Type}(P:Program)(G:Nat->Bool)(T:zQ)(CI:CIT)(Y:YI Γ)(nm:Nm)(ops:Array Oper)(d:Bool)(g:Γ)(env:List SV)(h:SH)(K:Γ->List SV->SH->zEP R):zEP R :=
 cond (gD G ops) (cond d (cond (aF ops&&aH ops&&!(zDJ ops&&mR ops)) (cond (qOQ ops)
  (qVL P T nm (ops.toList.map (·.dst)) (dBo ops) env 0 (ops.toList.take (ops.size - 1)) env h [] [] [] [] fun env h=>qY8 P T CI Y nm (ops.toList.map (·.dst)) (ops.toList.drop (ops.size - 1)) g env h K)
  (qVL P T nm (ops.toList.map (·.dst)) (dBo ops) env 0 ops.toList env h [] [] [] [] (K g))) (cond (mR ops) (qDG P T nm (ops.toList.map (·.dst)) (Region.before ops) env h 0 ops.toList env h [] [] [] [] [] (K g)) .fail)) (qY8 P T CI Y nm (ops.toList.map (·.dst)) ops.toList g env h K)) .fail
variable {nat:xG}{good:FuncId->Bool}{rd:Bool}
theorem q7N [zFC P G]{Γ:Type}{w:Wld Γ}{T:zQ}{CI:CIT}{Y:YI Γ}(s:zFN P good nat G tab)(ht:qPF tab T)(hci:qTY P G CI)(hy:YOk P G w Y){id:Nat}{ops:Array Oper}{d:Bool}{g:Γ}{K:Γ->List SV->SH->zEP R}(ho:OkH P h)(he:okL h env)(e:(zC2 P G T CI Y nm ops d g env h K).run=some r) :
 qR P G rd nm w (.region id ops d) g (qB env) (qC h.l) fun x g' pe ph=>x=.normal∧∃ env' h',pe=qB env'∧ph=qC h'.l∧Ends P (ops.toList.map (·.dst)) env h env' h'∧(K g' env' h').run=some r:=by
 unfold zC2 at e;obtain⟨c1,e1⟩:=qE e
 cases d with
 | true =>
   cases hc2:(aF ops&&aH ops&&!(zDJ ops&&mR ops)) with
   | false =>
     rw[hc2] at e1;obtain⟨c3,e2⟩:=qE (show (cond (mR ops) (qDG P T nm (ops.toList.map (·.dst)) (Region.before ops) env h 0 ops.toList env h [] [] [] [] [] (K g)) .fail:zEP R).run=some r from e1);refine (qR.of (s.zMJ (Q:=fun x pe ph=>x=.normal∧∃ env' h',pe=qB env'∧ph=qC h'.l∧Ends P (ops.toList.map (·.dst)) env h env' h'∧(K g env' h').run=some r) c1 c3 ?_)).mono ?_
     ·exact zE2 (fun e p hq=>⟨rfl,hq⟩) (bT (G:=G) (O:=[]) ht ho he e2)
     ·rintro x g' pe ph ⟨rfl,hq⟩;exact hq
   | true =>
   have c2:=hc2;rw[hc2] at e1
   have e2:(cond (qOQ ops)
    (qVL P T nm (ops.toList.map (·.dst)) (dBo ops) env 0 (ops.toList.take (ops.size - 1)) env h [] [] [] [] fun env h=>qY8 P T CI Y nm (ops.toList.map (·.dst)) (ops.toList.drop (ops.size - 1)) g env h K)
    (qVL P T nm (ops.toList.map (·.dst)) (dBo ops) env 0 ops.toList env h [] [] [] [] (K g)):zEP R).run=some r:=e1
   rw[zN8,zN8] at c2;have c2:=c2.1
   cases hlo:qOQ ops with
   | false =>
     rw[hlo] at e2;have e2:(qVL P T nm (ops.toList.map (·.dst)) (dBo ops) env 0 ops.toList env h [] [] [] [] (K g)).run=some r:=e2;refine (qR.of (s.zMD (Q:=fun x pe ph=>x=.normal∧∃ env' h',pe=qB env'∧ph=qC h'.l∧Ends P (ops.toList.map (·.dst)) env h env' h'∧(K g env' h').run=some r) c1 c2.1 c2.2 rfl rfl ?_)).mono ?_
     ·exact zE2 (fun e p hq=>⟨rfl,hq⟩) (qGV (G:=G) ht ho he e2)
     ·rintro x g' pe ph ⟨rfl,hq⟩;exact hq
   | true =>
     rw[hlo] at e2;have e2:(qVL P T nm (ops.toList.map (·.dst)) (dBo ops) env 0 (ops.toList.take (ops.size - 1)) env h [] [] [] [] fun env h=>qY8 P T CI Y nm (ops.toList.map (·.dst)) (ops.toList.drop (ops.size - 1)) g env h K).run=some r:=e2;unfold qOQ at hlo;split at hlo
     ·rename_i o hop;split at hlo
      ·have hlt:=(zOJ.1 hop).1
       have hdrop:ops.toList.drop (ops.size - 1)=[o]:=by
        have h1:ops.toList[ops.size - 1]?=some o:=by simpa using hop
        obtain⟨h2,h3⟩:=zOE.1 h1;rw[zQ7 h2,h3,List.drop_eq_nil_of_le (by simp;omega)]
       have hmap:(ops.toList.take (ops.size - 1)).map (·.dst)++[o.dst]=ops.toList.map (·.dst):=by
        rw[show [o.dst]=[o].map (·.dst) from rfl,<-zPQ,<-hdrop,zSD]
       refine s.zMG (inl:=q0R T) (n0:=ops.size - 1) c1 c2.1 c2.2 hop (by omega) (fun i hi=>zOB.1 hlo i (zRA.2 hi)) ?_;refine zE2 (fun e p hq=>?_) (qGV (G:=G) ht ho he e2);obtain⟨zEV,h1,rfl,rfl,a3,a4⟩:=hq;rw[hdrop] at a4;refine kR (fun g2 e p hq=>?_) (qHF (G:=G) ht hci hy a3.2.1 a3.1 a4);obtain⟨zE6,h2,rfl,rfl,b3,b4⟩:=hq;refine⟨rfl,zE6,h2,rfl,rfl,⟨b3.1,b3.2.1,a3.2.2.1.trans b3.2.2.1,fun i hi=>?_,b3.2.2.2.2.trans a3.2.2.2.2⟩,b4⟩;rw[<-hmap,zPD,not_or] at hi;exact (b3.2.2.2.1 i hi.2).trans (a3.2.2.2.1 i hi.1)
      ·cases hlo
     ·cases hlo
 | false=>exact s.zMF c1 (kR (fun g e p hq=>⟨rfl,hq⟩) (qHF (G:=G) ht hci hy ho he e1))
end
end Go.Sv
