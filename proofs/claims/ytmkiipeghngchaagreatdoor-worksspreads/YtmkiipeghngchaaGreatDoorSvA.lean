/- A symbolic run, part one. Conditions: none. -/
import Derived.Test.YtmkiipeghngchaaGreatDoorPur23
set_option linter.all false
namespace Go.Sv
open Go.Idl
variable {el:TypeId}{j n off:Nat}{k:IntKind}
class Yl where
 l:Nat
variable [Gc]
variable {P:Program}{Z Z':Nat->Prop}{H:IH}{M:Nat->Option (Nat×PO)}
inductive Ty where
 | int (k:IntKind)
 | bool
 | str
 | unit
 | list (el:TypeId) (t:Ty)
 | pair (a b:Ty)
 | raw
 | ol (el:TypeId) (k:IntKind)
 | nif deriving DecidableEq
@[reducible] def Ty.sem:Ty->Type
  | .int _=>Int
  | .bool=>Bool
  | .str=>ByteArray
  | .unit=>Unit
  | .list _ t=>List t.sem
  | .pair a b=>a.sem×b.sem
  | .raw=>List (Value×Value)
  | .ol _ _=>List Int
  | .nif=>Unit
def eP (l:List (Value×Value)):List FV:=List.flatMap (fun p=>[.v p.1,.v p.2]) l
def fvo (el:TypeId)(k:IntKind):List Int->FV
 | []=>.v (.slice none 0 0)
 | x::xs=>.l el (xs.length+1) (List.flatMap (fun i=>[FV.v (.int k i)]) (x::xs))
def Ty.cells:(t:Ty)->t.sem->List FV
 | .int k,x=>[.v (.int k x)]
 | .bool,x=>[.v (.bool x)]
 | .str,x=>[.v (.string x)]
 | .unit,_=>[]
 | .list el t,xs=>[.l el (List.length xs) (List.flatMap t.cells xs)]
 | .pair a b,x=>a.cells x.1++b.cells x.2
 | .raw,xs=>[.l 1000000001 (List.length xs) (eP xs)]
 | .ol el k,xs=>[fvo el k xs]
 | .nif,_=>[.v .nilIface]
def Ty.w:Ty->Nat
 | .int _ | .bool | .str | .list _ _ | .raw | .ol _ _ | .nif=>1
 | .unit=>0
 | .pair a b=>a.w+b.w
def Ty.nol:Ty->Bool
 | .ol _ _=>false
 | .pair a b=>a.nol&&b.nol
 | _=>true
def Ty.one:Ty->Bool
 | .unit=>false
 | .pair _ _=>false
 | _=>true
def Ty.fv:(t:Ty)->t.sem->FV
 | .int k,x=>.v (.int k x)
 | .bool,x=>.v (.bool x)
 | .str,x=>.v (.string x)
 | .list el t,xs=>.l el (List.length xs) (List.flatMap t.cells xs)
 | .raw,xs=>.l 1000000001 (List.length xs) (eP xs)
 | .ol el k,xs=>fvo el k xs
 | .nif,_=>.v .nilIface
 | _,_=>.v undef
theorem Ty.cells_one:∀ {t:Ty} {x:t.sem},t.one=true->t.cells x=[t.fv x]
 | .int _,_,_=>rfl
 | .bool,_,_=>rfl
 | .str,_,_=>rfl
 | .list _ _,_,_=>rfl
 | .raw,_,_=>rfl
 | .ol _ _,_,_=>rfl
 | .nif,_,_=>rfl
 | .unit,_,h=>by cases h
 | .pair _ _,_,h=>by cases h
theorem Ty.zFM:∀ (t:Ty) (x:t.sem),(t.cells x).length=t.w
 | .int _,_=>rfl
 | .bool,_=>rfl
 | .str,_=>rfl
 | .list _ _,_=>rfl
 | .raw,_=>rfl
 | .ol _ _,_=>rfl
 | .nif,_=>rfl
 | .unit,_=>rfl
 | .pair a b,x=>by
   show (a.cells x.1++b.cells x.2).length=a.w+b.w;rw[zPC,a.zFM,b.zFM]
theorem zR {t:Ty}:∀ (xs:List t.sem),(xs.flatMap t.cells).length=xs.length*t.w
 | []=>by simp
 | x::xs=>by rw[zPO,zPC,t.zFM,zR xs,zPG,zRM,zRL]
theorem gK {t:Ty}:∀ (xs:List t.sem) (j:Nat),(xs.flatMap t.cells).drop (j*t.w)=(xs.drop j).flatMap t.cells
 | xs,0=>by simp
 | [],j+1=>by simp
 | x::xs,j+1=>by
   rw[zPO,List.drop_succ_cons,<-gK xs j,zRM,zRL,<-zSN]
   congr 1
   rw[List.drop_append_of_le_length (by rw[t.zFM];exact zOV _),zST (by rw[t.zFM];exact zOV _),List.nil_append]
theorem gN {t:Ty}:∀ (xs:List t.sem) (j:Nat),(xs.flatMap t.cells).take (j*t.w)=(xs.take j).flatMap t.cells
 | xs,0=>by simp
 | [],j+1=>by simp
 | x::xs,j+1=>by
   rw[zPO,zQ0,zPO,<-gN xs j,zRM,zRL,List.take_append,t.zFM,zSO,zPI (by rw[t.zFM];omega)]
theorem qX7 {t:Ty}{xs:List t.sem}{x:t.sem}(h:xs[j]?=some x):((xs.flatMap t.cells).drop (j*t.w)).take t.w=t.cells x:=by
 rw[gK]
 have hj:=(zOZ.1 h)
 obtain⟨hl,hx⟩:=hj;rw[zRR hl,hx,zPO,List.take_append_of_le_length (by rw[t.zFM];exact zOV _),zPI (by rw[t.zFM];exact zOV _)]
theorem qLS {t:Ty}{xs:List t.sem}{x:t.sem}(h:xs[j]?=some x)(hn:off+n<=t.w):((xs.flatMap t.cells).drop (j*t.w+off)).take n=((t.cells x).drop off).take n:=by
 rw[<-qX7 h,List.drop_take,zSN,zR7,zQN (by omega)]
theorem flat_get {t:Ty}{xs:List t.sem}{x:t.sem}(h:xs[j]?=some x)(hn:off < t.w):(xs.flatMap t.cells)[j*t.w+off]?=(t.cells x)[off]?:=by
 rw[<-qX7 h,zQL,if_pos hn,zQQ]
theorem qHI {t:Ty}{xs:List t.sem}{x:t.sem}(h:xs[j]?=some x)(hn:off+n<=t.w):j*t.w+off+n<=(xs.flatMap t.cells).length:=by
 have hl:=(zOZ.1 h).1;rw[zR];have:(j+1)*t.w<=xs.length*t.w:=zP3 _ hl;rw[zRM] at this;omega
theorem qK2:∀ (xs ys:List (Value×Value)),eP xs=eP ys->xs=ys
 | [],[],_=>rfl
 | [],y::ys,h=>by cases h
 | x::xs,[],h=>by cases h
 | x::xs,y::ys,h=>by
   have h:FV.v x.1::FV.v x.2::eP xs=FV.v y.1::FV.v y.2::eP ys:=h;injection h with h1 h2;injection h2 with h2 h3;injection h1 with h1;injection h2 with h2;rw[qK2 xs ys h3,Prod.ext h1 h2]
theorem qC7:∀ (xs:List (Value×Value)),(eP xs).length=2*xs.length
 | []=>rfl
 | x::xs=>by
   show (eP xs).length+2=_;rw[qC7 xs,zPG];omega
theorem qQF:∀ (xs ys:List (Value×Value)) (vs:List Value),FRL Z H (eP xs) vs->FRL Z' H (eP ys) vs->xs=ys
 | [],[],_,_,_=>rfl
 | [],y::ys,vs,a,b=>by have:=a.len;have:=b.len;simp[eP] at *;omega
 | x::xs,[],vs,a,b=>by have:=a.len;have:=b.len;simp[eP] at *;omega
 | x::xs,y::ys,vs,a,b=>by
   have a:FRL Z H (FV.v x.1::FV.v x.2::eP xs) vs:=a;have b:FRL Z' H (FV.v y.1::FV.v y.2::eP ys) vs:=b;obtain⟨v,vs',rfl,a1,a2⟩:=a.zFF;obtain⟨v',vs2,e,b1,b2⟩:=b.zFF;cases e;obtain⟨w,vs3,rfl,a3,a4⟩:=a2.zFF;obtain⟨w',vs4,e,b3,b4⟩:=b2.zFF;cases e;have e1:=(qL7 a1).symm.trans (qL7 b1);have e2:=(qL7 a3).symm.trans (qL7 b3);rw[qQF xs ys _ a4 b4,Prod.ext e1 e2]
theorem qOV {k:IntKind}:∀ (xs ys:List Int),List.flatMap (fun i=>[FV.v (.int k i)]) xs=List.flatMap (fun i=>[FV.v (.int k i)]) ys->xs=ys
 | [],[],_=>rfl
 | [],y::ys,h=>by simp at h
 | x::xs,[],h=>by simp at h
 | x::xs,y::ys,h=>by
   have h:FV.v (.int k x)::List.flatMap (fun i=>[FV.v (.int k i)]) xs=FV.v (.int k y)::List.flatMap (fun i=>[FV.v (.int k i)]) ys:=h;injection h with h1 h2;injection h1 with h1;injection h1 with _ h1;rw[h1,qOV xs ys h2]
theorem qPT (xs:List Int):(List.flatMap (fun i=>[FV.v (.int k i)]) xs).length=xs.length:=by
 induction xs with
 | nil=>rfl
 | cons x xs ih=>rw[zPO,zPC,ih];simp;omega
theorem qK6 {k:IntKind}:∀ (xs ys:List Int) (vs:List Value),FRL Z H (List.flatMap (fun i=>[FV.v (.int k i)]) xs) vs->FRL Z' H (List.flatMap (fun i=>[FV.v (.int k i)]) ys) vs->xs=ys
 | [],[],_,_,_=>rfl
 | [],y::ys,vs,a,b=>by have:=a.len;have:=b.len;simp at *;omega
 | x::xs,[],vs,a,b=>by have:=a.len;have:=b.len;simp at *;omega
 | x::xs,y::ys,vs,a,b=>by
   have a:FRL Z H (FV.v (.int k x)::List.flatMap (fun i=>[FV.v (.int k i)]) xs) vs:=a;have b:FRL Z' H (FV.v (.int k y)::List.flatMap (fun i=>[FV.v (.int k i)]) ys) vs:=b;obtain⟨v,vs',rfl,a1,a2⟩:=a.zFF;obtain⟨v',vs2,e,b1,b2⟩:=b.zFF;cases e;have e1:=(qL7 a1).symm.trans (qL7 b1);injection e1 with _ e1;rw[qK6 xs ys _ a2 b2,e1]
theorem q8H:∀ {xs ys:List Int},fvo el k xs=fvo el k ys->xs=ys
 | [],[],_=>rfl
 | [],_::_,h=>by cases h
 | _::_,[],h=>by cases h
 | x::xs,y::ys,h=>by
   injection h with _ _ h;exact qOV _ _ h
theorem q1P {v:Value}:∀ {xs ys:List Int},FR Z H (fvo el k xs) v->FR Z' H (fvo el k ys) v->xs=ys
 | [],[],_,_=>rfl
 | [],_::_,a,b=>by have:=qL7 a;subst this;cases b
 | _::_,[],a,b=>by have:=qL7 b;subst this;cases a
 | x::xs,y::ys,a,b=>by
   obtain⟨h1,ws,ws',h2,h3,h4⟩:=pW a b;have:=h4 (by rw[qPT,qPT];simpa using h1);subst this;exact qK6 _ _ ws h2 h3
theorem Ty.inj:∀ (t:Ty) (x y:t.sem),t.cells x=t.cells y->x=y
 | .int _,x,y,h=>by injection h with h;injection h with h;injection h
 | .bool,x,y,h=>by injection h with h;injection h with h;injection h
 | .str,x,y,h=>by injection h with h;injection h with h;injection h
 | .unit,_,_,_=>rfl
 | .nif,_,_,_=>rfl
 | .ol el k,xs,ys,h=>by
   injection h with h;exact q8H h
 | .raw,xs,ys,h=>by
   injection h with h;injection h with _ h1 h2;exact qK2 _ _ h2
 | .pair a b,x,y,h=>by
   have:=List.append_inj (show a.cells x.1++b.cells x.2=a.cells y.1++b.cells y.2 from h) (by rw[a.zFM,a.zFM]);exact Prod.ext (a.inj _ _ this.1) (b.inj _ _ this.2)
 | .list el t,xs,ys,h=>by
   injection h with h;injection h with _ h1 h2;exact go t xs ys h1 h2
where
 go (t:Ty):∀ (xs ys:List t.sem),xs.length=ys.length->xs.flatMap t.cells=ys.flatMap t.cells->xs=ys
 | [],[],_,_=>rfl
 | [],y::ys,e,h=>by cases e
 | x::xs,[],e,h=>by cases e
 | x::xs,y::ys,e,h=>by
   rw[zPO,zPO] at h;have:=List.append_inj h (by rw[t.zFM,t.zFM]);rw[t.inj x y this.1,go t xs ys (by simpa using e) this.2]
theorem Ty.uniq:∀ (t:Ty) {x y:t.sem} {vs:List Value},FRL Z H (t.cells x) vs->FRL Z' H (t.cells y) vs->x=y
 | .int k,x,y,vs,a,b=>by
   obtain⟨v,vs',rfl,a1,_⟩:=a.zFF;obtain⟨v',vs2,e,b1,_⟩:=b.zFF;cases e;have:=(qL7 a1).symm.trans (qL7 b1);injection this
 | .bool,x,y,vs,a,b=>by
   obtain⟨v,vs',rfl,a1,_⟩:=a.zFF;obtain⟨v',vs2,e,b1,_⟩:=b.zFF;cases e;have:=(qL7 a1).symm.trans (qL7 b1);injection this
 | .str,x,y,vs,a,b=>by
   obtain⟨v,vs',rfl,a1,_⟩:=a.zFF;obtain⟨v',vs2,e,b1,_⟩:=b.zFF;cases e;have:=(qL7 a1).symm.trans (qL7 b1);injection this
 | .unit,_,_,_,_,_=>rfl
 | .nif,_,_,_,_,_=>rfl
 | .ol el k,xs,ys,vs,a,b=>by
   obtain⟨v,vs',rfl,a1,_⟩:=a.zFF;obtain⟨v',vs2,e,b1,_⟩:=b.zFF;cases e;exact q1P a1 b1
 | .raw,xs,ys,vs,a,b=>by
   obtain⟨v,vs',rfl,a1,_⟩:=a.zFF;obtain⟨v',vs2,e,b1,_⟩:=b.zFF;cases e;obtain⟨h1,ws,ws',h2,h3,h4⟩:=pW a1 b1;have:=h4 (by rw[qC7,qC7,h1]);subst this;exact qQF xs ys ws h2 h3
 | .pair s t,x,y,vs,a,b=>by
   obtain⟨a1,a2⟩:=FRL.split (xs:=s.cells x.1) (ys:=t.cells x.2) a;obtain⟨b1,b2⟩:=FRL.split (xs:=s.cells y.1) (ys:=t.cells y.2) b;rw[s.zFM] at a1 a2 b1 b2;exact Prod.ext (s.uniq a1 b1) (t.uniq a2 b2)
 | .list el t,xs,ys,vs,a,b=>by
   obtain⟨v,vs',rfl,a1,_⟩:=a.zFF;obtain⟨v',vs2,e,b1,_⟩:=b.zFF;cases e;obtain⟨h1,ws,ws',h2,h3,h4⟩:=pW a1 b1;have:=h4 (by rw[zR,zR,h1]);subst this;exact go t xs ys ws h1 h2 h3
where
 go (t:Ty):∀ (xs ys:List t.sem) (vs:List Value),xs.length=ys.length->FRL Z H (xs.flatMap t.cells) vs->FRL Z' H (ys.flatMap t.cells) vs->xs=ys
 | [],[],_,_,_,_=>rfl
 | [],y::ys,vs,e,a,b=>by cases e
 | x::xs,[],vs,e,a,b=>by cases e
 | x::xs,y::ys,vs,e,a,b=>by
   rw[zPO] at a b;obtain⟨a1,a2⟩:=a.split;obtain⟨b1,b2⟩:=b.split;rw[t.zFM] at a1 a2 b1 b2;rw[t.uniq a1 b1,go t xs ys _ (by simpa using e) a2 b2]
def Ty.pv (t:Ty)(x:t.sem):PV:=cond t.one (.f (t.fv x)) (.agg ((t.cells x).map .f))
def Ty.en (t:Ty):PEn t.sem:=⟨t.pv,fun x y h=>by
 unfold Ty.pv at h
 cases ht:t.one with
 | true =>
   rw[ht] at h;injection h with h;exact t.inj x y (by rw[Ty.cells_one ht,Ty.cells_one ht,h])
 | false =>
   rw[ht] at h;injection h with h
   exact t.inj x y (q95 _ _ h),fun P Z Z' H x y v a b=>by
 unfold Ty.pv at a b
 cases ht:t.one with
 | true =>
   rw[ht] at a b
   cases a with
   | f a=>cases b with
     | f b=>exact t.uniq (vs:=[v]) (by rw[Ty.cells_one ht];exact .cons a ⟨rfl,fun i x v h=>by simp at h⟩) (by rw[Ty.cells_one ht];exact .cons b ⟨rfl,fun i x v h=>by simp at h⟩)
 | false =>
   rw[ht] at a b;obtain⟨vs,rfl,h1⟩:=VR.zHZ a;obtain⟨vs',e,h2⟩:=VR.zHZ b;cases e
   exact t.uniq (qCV h1) (qCV h2)⟩
@[reducible] def TyL:List Ty->Type
  | []=>Unit
  | [t]=>t.sem
  | t::u::ts=>t.sem×TyL (u::ts)
def pvL:(ts:List Ty)->TyL ts->List PV
 | [],_=>[]
 | [t],x=>[t.pv x]
 | t::u::ts,x=>t.pv x.1::pvL (u::ts) x.2
theorem qZB:∀ (ts:List Ty) (x y:TyL ts),pvL ts x=pvL ts y->x=y
 | [],_,_,_=>rfl
 | [t],x,y,h=>by injection h with h;exact t.en.inj x y h
 | t::u::ts,x,y,h=>by
   injection h with h1 h2;exact Prod.ext (t.en.inj _ _ h1) (qZB (u::ts) _ _ h2)
theorem qQ2:∀ (ts:List Ty) (x y:TyL ts) (vs:List Value),VRL P Z H (fun _=>none) (pvL ts x) vs->VRL P Z' H (fun _=>none) (pvL ts y) vs->x=y
 | [],_,_,_,_,_=>rfl
 | [t],x,y,vs,a,b=>by
   obtain⟨v,vs',rfl,a1,_⟩:=a.zFF;obtain⟨v',vs2,e,b1,_⟩:=b.zFF;cases e;exact t.en.uniq P Z Z' H x y v a1 b1
 | t::u::ts,x,y,vs,a,b=>by
   obtain⟨v,vs',rfl,a1,a2⟩:=a.zFF;obtain⟨v',vs2,e,b1,b2⟩:=b.zFF;cases e;exact Prod.ext (t.en.uniq P Z Z' H _ _ v a1 b1) (qQ2 (u::ts) _ _ _ a2 b2)
def enL (ts:List Ty):AEn (TyL ts):=⟨pvL ts,qZB ts,fun P Z Z' H x y vs a b=>qQ2 ts x y vs a b⟩
def jM:(ts:List Ty)->TyL ts->PV:=fun ts x=>qD4 (pvL ts x)
end Go.Sv
namespace Go.Sv
open Go.Idl
variable [Gc]
variable {P:Program}
variable {b:Bool}{k:Nat}
def zFC (R:Type):Type:=Option R
section
variable {R α σ ρ:Type}
def zFC.run (t:zFC R):Option R:=t
def zFC.fail:zFC R:=(none:Option R)
def zFC.ret (r:R):zFC R:=some r
def zFC.ite (b:Bool)(x y:zFC R):zFC R:=cond b x y
noncomputable def zFC.bind (o:Option α)(k:α->zFC R):zFC R:=Option.rec zFC.fail k o
open Classical in
noncomputable def qMG (x y:Option R):Option R:=if x=y then x else none
noncomputable def zFC.both (x y:zFC R):zFC R:=zFC.bind (qMG x y) .ret
noncomputable def zFC.loop (f:σ->zFC (σ⊕ρ))(s:σ)(k:ρ->zFC R):zFC R:=zFC.bind (zO (fun s=>(f s).run) s) k
end
theorem run_ite {R:Type}{x y:zFC R}{r:R}(h:(zFC.ite b x y).run=some r):(b=true∧x.run=some r)∨(b=false∧y.run=some r):=by
 cases b with
 | true=>exact .inl ⟨rfl,h⟩
 | false=>exact .inr ⟨rfl,h⟩
theorem run_bind {R α:Type}{o:Option α}{k:α->zFC R}{r:R}(h:(zFC.bind o k).run=some r):∃ a,o=some a∧(k a).run=some r:=by
 cases o with
 | none=>cases h
 | some a=>exact⟨a,rfl,h⟩
theorem qPZ {R σ ρ:Type}{f:σ->zFC (σ⊕ρ)}{s:σ}{k:ρ->zFC R}{r:R}(h:(zFC.loop f s k).run=some r):∃ a,zO (fun s=>(f s).run) s=some a∧(k a).run=some r:=run_bind h
theorem qY5 {R:Type}{x y:Option R}{r:R}(h:qMG x y=some r):x=some r∧y=some r:=by
 unfold qMG at h;split at h
 ·rename_i e;exact⟨h,e ▸ h⟩
 ·cases h
theorem q3B {R:Type}{x y:zFC R}{r:R}(h:(zFC.both x y).run=some r):x.run=some r∧y.run=some r:=by
 obtain⟨a,h1,h2⟩:=run_bind h;cases h2;exact qY5 h1
theorem qS2 {R:Type}(x:Option R):qMG x x=x:=by unfold qMG;rw[if_pos rfl]
theorem qE {R:Type}{x:zFC R}{r:R}(h:(cond b x .fail).run=some r):b=true∧x.run=some r:=by
 cases b with
 | true=>exact⟨rfl,h⟩
 | false=>cases h
inductive SV where
 | d (t:Ty) (x:t.sem)
 | c (v:Value)
 | agg (l:List SV)
 | tup (l:List SV)
 | own (k g n:Nat)
 | sl (k g n o m:Nat)
 | ref (k off w:Nat)
 | elt (k g n w j off:Nat)
 | lp (t:Ty) (xs:List t.sem) (j off:Nat)
 | fn (f:FuncId) (first cap:List SV)
 | unk
 | yv
 | bq
 | mp (k:Nat)
 | opt (b:Bool) (k off w:Nat)
 | rfx (k off w:Nat)
 | etx (k g n w j off:Nat)
 | asl (el:TypeId) (k w n:Nat)
section
variable [Yl]
mutual
def SV.enc:SV->PV
 | .d t x=>.f (t.fv x)
 | .c v=>fvv v
 | .agg l=>.agg (qB l)
 | .tup l=>.tup (qB l)
 | .own k _ n=>.own k n 0 n
 | .sl k _ n o m=>.own k n o m
 | .ref k off w=>.ref k w off
 | .elt k _ n w j off=>.ref k (n*w) (j*w+off)
 | .lp t xs j off=>.lp (List.flatMap t.cells xs) (j*t.w+off)
 | .fn f a b=>.fn f (qB a) (qB b)
 | .unk=>.unk
 | .yv=>.yl Yl.l
 | .bq=>.bq
 | .mp k=>.mp k
 | .opt b k off w=>cond b (.ref k w off) (fvv (.pointer none))
 | .rfx k off w=>.ref k w off
 | .etx k _ n w j off=>.ref k (n*w) (j*w+off)
 | .asl el k _ n=>.asl el k n
def qB:List SV->List PV
 | []=>[]
 | x::l=>x.enc::qB l
end
theorem zD:∀ (l:List SV),qB l=l.map SV.enc
 | []=>by simp[qB]
 | x::l=>by simp[qB,zD l]
end
inductive SpO where
 | map (es:List (Value×Value))
 | iter (s:ByteArray) (pos:Nat)
 | mit (t:TypeId) (k since last:Nat) (seen:List Nat)
 | arr (el:TypeId) (k:IntKind) (xs:List Int)
def xC:Nat->List (Value×Value)->List MapEntry
 | _,[]=>[]
 | i,p::l=>⟨p.1,p.2,i⟩::xC (i+1) l
def SpO.enc:SpO->PO
 | .map es=>⟨1000000001,false,kN (List.length es) (xC 0 es)⟩
 | .iter s pos=>⟨1000000000,false,qC4 s pos⟩
 | .mit _ k since last seen=>⟨1000000002,false,qF2 (.mp k) since last seen⟩
 | .arr el k xs=>⟨el,false,xs.map fun x=>fvv (.int k x)⟩
inductive SO where
 | spc (w:Nat) (x:SpO)
 | cells (el:TypeId) (w:Nat) (l:List SV)
 | list (el:TypeId) (gr:Bool) (g w:Nat) (t:Ty) (xs:List t.sem)
section
variable [Yl]
def SO.enc:SO->PO
 | .cells el _ l=>⟨el,false,qB l⟩
 | .list el gr _ _ t xs=>⟨el,gr,(List.flatMap t.cells xs).map .f⟩
 | .spc _ x=>x.enc
def SO.w:SO->Nat
 | .cells _ w _=>w
 | .list _ _ _ w _ _=>w
 | .spc w _=>w
structure SH where
 next:Nat
 l:List (Nat×SO)
def slk (k:Nat):List (Nat×SO)->Option SO
 | []=>none
 | (j,o)::l=>cond (k==j) (some o) (slk k l)
def sst (k:Nat)(o:SO):List (Nat×SO)->List (Nat×SO)
 | []=>[]
 | (j,p)::l=>cond (k==j) ((j,o)::l) ((j,p)::sst k o l)
def sdl (k:Nat):List (Nat×SO)->List (Nat×SO)
 | []=>[]
 | (j,p)::l=>cond (k==j) (sdl k l) ((j,p)::sdl k l)
def qC:List (Nat×SO)->PHp
 | []=>[]
 | (j,o)::l=>(j,o.enc)::qC l
theorem vJ (k:Nat):∀ (l:List (Nat×SO)),qA k (qC l)=(slk k l).map SO.enc
 | []=>rfl
 | (j,o)::l=>by
   show cond (k==j) (some o.enc) (qA k (qC l))=(cond (k==j) (some o) (slk k l)).map SO.enc;cases k==j
   ·exact vJ k l
   ·rfl
theorem xU (k:Nat)(o:SO):∀ (l:List (Nat×SO)),qC (sst k o l)=xN k o.enc (qC l)
 | []=>rfl
 | (j,p)::l=>by
   show qC (cond (k==j) ((j,o)::l) ((j,p)::sst k o l))=cond (k==j) ((j,o.enc)::qC l) ((j,p.enc)::xN k o.enc (qC l));cases k==j
   ·show (j,p.enc)::qC (sst k o l)=_;rw[xU k o l];rfl
   ·rfl
theorem fA (k:Nat):∀ (l:List (Nat×SO)),qC (sdl k l)=oK k (qC l)
 | []=>rfl
 | (j,p)::l=>by
   show qC (cond (k==j) (sdl k l) ((j,p)::sdl k l))=cond (k==j) (oK k (qC l)) ((j,p.enc)::oK k (qC l));cases k==j
   ·show (j,p.enc)::qC (sdl k l)=_;rw[fA k l];rfl
   ·exact fA k l
end
theorem qEP {k j:Nat}{o:SO}(hj:j≠k):∀ (l:List (Nat×SO)),slk j (sst k o l)=slk j l
 | []=>rfl
 | (i,p)::l=>by
   show slk j (cond (k==i) ((i,o)::l) ((i,p)::sst k o l))=cond (j==i) (some p) (slk j l)
   cases h:k==i with
   | true =>
     have:k=i:=by simpa using h
     subst this;show cond (j==k) (some o) (slk j l)=_;rw[show (j==k)=false by simpa using hj];rfl
   | false =>
     show cond (j==i) (some p) (slk j (sst k o l))=_;rw[qEP hj l]
theorem qYH {k:Nat}{o p:SO}:∀ {l:List (Nat×SO)},slk k l=some p->slk k (sst k o l)=some o
 | (i,q)::l,h=>by
   have h:cond (k==i) (some q) (slk k l)=some p:=h;show slk k (cond (k==i) ((i,o)::l) ((i,q)::sst k o l))=some o
   cases hi:k==i with
   | true =>
     show cond (k==i) (some o) (slk k l)=some o;rw[hi];rfl
   | false =>
     rw[hi] at h;show cond (k==i) (some q) (slk k (sst k o l))=some o;rw[hi];exact qYH (l:=l) h
theorem kW {k j:Nat}(hj:j≠k):∀ (l:List (Nat×SO)),slk j (sdl k l)=slk j l
 | []=>rfl
 | (i,p)::l=>by
   show slk j (cond (k==i) (sdl k l) ((i,p)::sdl k l))=cond (j==i) (some p) (slk j l)
   cases h:k==i with
   | true =>
     have:k=i:=by simpa using h
     subst this;rw[show (j==k)=false by simpa using hj];exact kW hj l
   | false =>
     show cond (j==i) (some p) (slk j (sdl k l))=_;rw[kW hj l]
theorem qNX (k:Nat):∀ (l:List (Nat×SO)),slk k (sdl k l)=none
 | []=>rfl
 | (i,p)::l=>by
   show slk k (cond (k==i) (sdl k l) ((i,p)::sdl k l))=none
   cases h:k==i with
   | true=>exact qNX k l
   | false =>
     show cond (k==i) (some p) (slk k (sdl k l))=none;rw[h];exact qNX k l
theorem yA {j:Nat}{o:SO}{l:List (Nat×SO)}(hj:j≠k):slk j ((k,o)::l)=slk j l:=by
 show cond (j==k) (some o) (slk j l)=_;rw[show (j==k)=false by simpa using hj];rfl
theorem jD {o:SO}{l:List (Nat×SO)}:slk k ((k,o)::l)=some o:=by
 show cond (k==k) (some o) (slk k l)=_;simp
def qX9 (h:SH)(k g n:Nat):Prop:=g < h.next∧∀ el gr w t xs,slk k h.l=some (.list el gr g w t xs)->n=xs.length
mutual
def SV.ok (h:SH):SV->Prop
 | .agg l=>okL h l
 | .tup l=>okL h l
 | .own k g n=>qX9 h k g n
 | .sl k g n o m=>qX9 h k g n∧o+m<=n
 | .elt k g n _ _ _=>qX9 h k g n
 | .etx k g n _ _ _=>qX9 h k g n
 | .fn _ a b=>okL h a∧okL h b
 | .asl _ k w n=>w < h.next∧∀ ob,slk k h.l=some ob->ob.w=w->∃ el ik,∃ xs:List Int,ob=.spc w (.arr el ik xs)∧n=xs.length
 | _=>True
def okL (h:SH):List SV->Prop
 | []=>True
 | x::l=>x.ok h∧okL h l
end
theorem zH {h:SH}:∀ {l:List SV},okL h l ↔ ∀ x∈l,x.ok h
 | []=>by simp[okL]
 | x::l=>by simp[okL,zH (l:=l)]
structure OkH (P:Program) (h:SH):Prop where
 ver:∀ k ob,slk k h.l=some ob->ob.w < h.next
 cells:∀ k el w l,slk k h.l=some (.cells el w l)->okL h l
 list:∀ k el gr g w t xs,slk k h.l=some (.list el gr g w t xs)->g < h.next∧szT P el=some t.w∧0 < t.w
structure Keep (h h':SH):Prop where
 next:h.next<=h'.next
 same:∀ k ob,slk k h'.l=some ob->ob.w < h.next->slk k h.l=some ob
 len:∀ k el gr g w t xs,slk k h'.l=some (.list el gr g w t xs)->g < h.next->∃ w0,∃ xs0:List t.sem,slk k h.l=some (.list el gr g w0 t xs0)∧xs0.length=xs.length
theorem Keep.refl (h:SH):Keep h h:=⟨zOV _,fun _ _ h _=>h,fun k el gr g w t xs h _=>⟨w,xs,h,rfl⟩⟩
theorem Keep.trans {a b c:SH}(x:Keep a b)(y:Keep b c):Keep a c :=
 ⟨zPF x.next y.next,fun k ob h hw=>x.same k ob (y.same k ob h (zOY hw x.next)) hw,fun k el gr g w t xs h hg=>by
   obtain⟨w1,xs1,h1,e1⟩:=y.len k el gr g w t xs h (zOY hg x.next);obtain⟨w2,xs2,h2,e2⟩:=x.len k el gr g w1 t xs1 h1 hg
   exact⟨w2,xs2,h2,e2.trans e1⟩⟩
theorem qX9.keep {h h':SH}{g n:Nat}(a:qX9 h k g n)(b:Keep h h'):qX9 h' k g n :=
 ⟨zOY a.1 b.next,fun el gr w t xs hk=>by
   obtain⟨w0,xs0,h0,e0⟩:=b.len k el gr g w t xs hk a.1
   rw[<-e0];exact a.2 el gr w0 t xs0 h0⟩
mutual
theorem SV.ok.keep {h h':SH}(b:Keep h h'):∀ {x:SV},x.ok h->x.ok h'
 | .agg l,a=>by simp only[SV.ok] at a ⊢;exact qI b a
 | .tup l,a=>by simp only[SV.ok] at a ⊢;exact qI b a
 | .own k g n,a=>by simp only[SV.ok] at a ⊢;exact a.keep b
 | .sl k g n o m,a=>by simp only[SV.ok] at a ⊢;exact⟨a.1.keep b,a.2⟩
 | .elt k g n w j off,a=>by simp only[SV.ok] at a ⊢;exact a.keep b
 | .etx k g n w j off,a=>by simp only[SV.ok] at a ⊢;exact a.keep b
 | .fn f x y,a=>by simp only[SV.ok] at a ⊢;exact⟨qI b a.1,qI b a.2⟩
 | .d _ _,_=>by simp[SV.ok]
 | .c _,_=>by simp[SV.ok]
 | .ref _ _ _,_=>by simp[SV.ok]
 | .lp _ _ _ _,_=>by simp[SV.ok]
 | .unk,_=>by simp[SV.ok]
 | .yv,_=>by simp[SV.ok]
 | .bq,_=>by simp[SV.ok]
 | .mp _,_=>by simp[SV.ok]
 | .opt _ _ _ _,_=>by simp[SV.ok]
 | .rfx _ _ _,_=>by simp[SV.ok]
 | .asl el k w n,a=>by
   simp only[SV.ok] at a ⊢;exact⟨zOY a.1 b.next,fun ob ho hw=>a.2 ob (b.same k ob ho (by rw[hw];exact a.1)) hw⟩
theorem qI {h h':SH}(b:Keep h h'):∀ {l:List SV},okL h l->okL h' l
 | [],_=>by simp[okL]
 | x::l,a=>by simp only[okL] at a ⊢;exact⟨SV.ok.keep b a.1,qI b a.2⟩
end
def SH.new (h:SH)(k:Nat)(f:Nat->SO):SH:=⟨h.next+1,(k,f h.next)::h.l⟩
def SH.put (h:SH)(k:Nat)(f:Nat->SO):SH:=⟨h.next+1,sst k (f h.next) h.l⟩
def SH.del (h:SH)(k:Nat):SH:=⟨h.next,sdl k h.l⟩
def zAA (P:Program)(h:SH)(n:Nat):SO->Prop
 | .cells _ w l=>w=n∧okL h l
 | .list el _ g w t _=>w=n∧g=n∧szT P el=some t.w∧0 < t.w
 | .spc w _=>w=n
theorem q3W {h:SH}{f:Nat->SO}(hw:(f h.next).w=h.next)(hg:∀ el gr g w t xs,f h.next=.list el gr g w t xs->g=h.next):Keep h (h.new k f) :=
 ⟨zSD _,fun j ob hj hlt=>by
   by_cases e:j=k
   ·subst e;rw[show slk j (h.new j f).l=some (f h.next) from jD] at hj;cases hj;omega
   ·rwa [show slk j (h.new k f).l=slk j h.l from yA e] at hj,fun j el gr g w t xs hj hlt=>by
   by_cases e:j=k
   ·subst e;rw[show slk j (h.new j f).l=some (f h.next) from jD] at hj;have:=hg _ _ _ _ _ _ (zPS hj);omega
   ·rw[show slk j (h.new k f).l=slk j h.l from yA e] at hj
    exact⟨w,xs,hj,rfl⟩⟩
theorem xG {h:SH}{f:Nat->SO}(a:OkH P h)(hf:zAA P h h.next (f h.next)):Keep h (h.new k f)∧OkH P (h.new k f):=by
 have hw:(f h.next).w=h.next:=by
  cases hq:f h.next with
  | cells el w l=>rw[hq] at hf;exact hf.1
  | list el gr g w t xs=>rw[hq] at hf;exact hf.1
  | spc w x=>rw[hq] at hf;exact hf
 have hk:Keep h (h.new k f):=q3W hw fun el gr g w t xs e=>by rw[e] at hf;exact hf.2.1
 refine⟨hk,⟨fun j ob hj=>?_,fun j el w l hj=>?_,fun j el gr g w t xs hj=>?_⟩⟩
 ·by_cases e:j=k
  ·subst e;rw[show slk j (h.new j f).l=some (f h.next) from jD] at hj;cases hj;rw[hw];exact zPR _
  ·rw[show slk j (h.new k f).l=slk j h.l from yA e] at hj;exact zQK (a.ver j ob hj)
 ·by_cases e:j=k
  ·subst e;rw[show slk j (h.new j f).l=some (f h.next) from jD] at hj;rw[zPS hj] at hf;exact qI hk hf.2
  ·rw[show slk j (h.new k f).l=slk j h.l from yA e] at hj;exact qI hk (a.cells j el w l hj)
 ·by_cases e:j=k
  ·subst e;rw[show slk j (h.new j f).l=some (f h.next) from jD] at hj;rw[zPS hj] at hf;exact⟨by rw[hf.2.1];exact zPR _,hf.2.2⟩
  ·rw[show slk j (h.new k f).l=slk j h.l from yA e] at hj;have:=a.list j el gr g w t xs hj;exact⟨zQK this.1,this.2⟩
def zCU (h:SH)(n:Nat):SO->SO->Prop
 | .cells _ _ _,.cells _ w' l'=>w'=n∧okL h l'
 | .list el gr g _ t xs,ob'=>∃ xs':List t.sem,ob'=.list el gr g n t xs'∧xs.length=xs'.length
 | .spc _ _,.spc w' _=>w'=n
 | _,_=>False
theorem vU {h:SH}{f:Nat->SO}{ob:SO}(a:OkH P h)(hk:slk k h.l=some ob)(hf:zCU h h.next ob (f h.next)):Keep h (h.put k f)∧OkH P (h.put k f):=by
 have hs:slk k (h.put k f).l=some (f h.next):=qYH hk;have hn:∀ j,j≠k->slk j (h.put k f).l=slk j h.l:=fun j hj=>qEP hj _
 have hw:(f h.next).w=h.next:=by
  cases ob with
  | cells el w l =>
    cases hq:f h.next with
    | cells el' w' l'=>rw[hq] at hf;exact hf.1
    | list=>rw[hq] at hf;exact hf.elim
    | spc=>rw[hq] at hf;exact hf.elim
  | spc w0 x0 =>
    cases hq:f h.next with
    | spc w' x'=>rw[hq] at hf;exact hf
    | list=>rw[hq] at hf;exact hf.elim
    | cells=>rw[hq] at hf;exact hf.elim
  | list el gr g w t xs =>
    obtain⟨xs',e,_⟩:=hf;rw[e];rfl
 have hkp:Keep h (h.put k f):=by
  refine⟨zSD _,fun j o hj hlt=>?_,fun j el gr g w t xs hj hlt=>?_⟩
  ·by_cases e:j=k
   ·subst e;rw[hs] at hj;cases hj;omega
   ·rwa [hn j e] at hj
  ·by_cases e:j=k
   ·subst e;rw[hs] at hj;have hj:=zPS hj
    cases ob with
    | cells el0 w0 l0 =>
      rw[hj] at hf;exact hf.elim
    | spc w0 x0 =>
      rw[hj] at hf;exact hf.elim
    | list el0 gr0 g0 w0 t0 xs0 =>
      obtain⟨xs',e2,e3⟩:=hf;rw[e2] at hj;injection hj with a1 a2 a3 a4 a5 a6;subst a1 a2 a3 a5;cases a6;exact⟨w0,xs0,hk,e3⟩
   ·rw[hn j e] at hj;exact⟨w,xs,hj,rfl⟩
 refine⟨hkp,⟨fun j o hj=>?_,fun j el w l hj=>?_,fun j el gr g w t xs hj=>?_⟩⟩
 ·by_cases e:j=k
  ·subst e;rw[hs] at hj;cases hj;rw[hw];exact zPR _
  ·rw[hn j e] at hj;exact zQK (a.ver j o hj)
 ·by_cases e:j=k
  ·subst e;rw[hs] at hj;have hj:=zPS hj
   cases ob with
   | cells el0 w0 l0=>rw[hj] at hf;exact qI hkp hf.2
   | spc w0 x0=>rw[hj] at hf;exact hf.elim
   | list el0 gr0 g0 w0 t0 xs0 =>
     obtain⟨xs',e2,e3⟩:=hf;rw[e2] at hj;cases hj
  ·rw[hn j e] at hj;exact qI hkp (a.cells j el w l hj)
 ·by_cases e:j=k
  ·subst e;rw[hs] at hj;have hj:=zPS hj
   cases ob with
   | cells el0 w0 l0=>rw[hj] at hf;exact hf.elim
   | spc w0 x0=>rw[hj] at hf;exact hf.elim
   | list el0 gr0 g0 w0 t0 xs0 =>
     obtain⟨xs',e2,e3⟩:=hf;rw[e2] at hj;injection hj with a1 a2 a3 a4 a5 a6;subst a1 a2 a3 a5;have:=a.list j _ _ _ _ _ _ hk;exact⟨zQK this.1,this.2⟩
  ·rw[hn j e] at hj;have:=a.list j el gr g w t xs hj;exact⟨zQK this.1,this.2⟩
theorem gW {h:SH}(a:OkH P h):Keep h (h.del k)∧OkH P (h.del k):=by
 have hl:∀ j ob,slk j (h.del k).l=some ob->slk j h.l=some ob:=fun j ob hj=>by
  by_cases e:j=k
  ·subst e;rw[show slk j (h.del j).l=none from qNX j _] at hj;cases hj
  ·rwa [show slk j (h.del k).l=slk j h.l from kW e _] at hj
 have hkp:Keep h (h.del k):=⟨zOV _,fun j ob hj _=>hl j ob hj,fun j el gr g w t xs hj _=>⟨w,xs,hl _ _ hj,rfl⟩⟩
 exact⟨hkp,⟨fun j ob hj=>a.ver j ob (hl j ob hj),fun j el w l hj=>qI hkp (a.cells j el w l (hl _ _ hj)),fun j el gr g w t xs hj=>a.list j el gr g w t xs (hl _ _ hj)⟩⟩
def GV (Γ:Option Type):Type:=match Γ with
 | none=>Unit
 | some γ=>γ
def GS (Γ:Option Type)(S:Type):Type:=match Γ with
 | none=>S
 | some γ=>γ×S
def gj:{Γ:Option Type}->{S:Type}->GV Γ->S->GS Γ S
 | none,_,_,s=>s
 | some _,_,g,s=>(g,s)
def g1:{Γ:Option Type}->{S:Type}->GS Γ S->GV Γ
 | none,_,_=>()
 | some _,_,p=>p.1
def g2:{Γ:Option Type}->{S:Type}->GS Γ S->S
 | none,_,s=>s
 | some _,_,p=>p.2
theorem q4N {Γ:Option Type}{S:Type}{g:GV Γ}{s:S}:g1 (gj g s)=g:=by cases Γ <;> rfl
theorem q0C {Γ:Option Type}{S:Type}{g:GV Γ}{s:S}:g2 (gj g s)=s:=by cases Γ <;> rfl
structure Ent where
 as:List Ty
 rs:List Ty
 F:TyL as->Option (TyL rs)
abbrev zV:=List (FuncId×Ent)
def slT (g:FuncId):zV->Option Ent
 | []=>none
 | (k,e)::l=>cond (Nat.beq g k) (some e) (slT g l)
structure Sh where
 d:List Nat
 o:List Nat
 s:List (Nat×Nat)
 v:List (Nat×TypeId)
 ex:List Nat
 b:List (Nat×List (Option Nat)):=[]
 bv:List (Nat×Nat×TypeId×Nat):=[]
structure Ab where
 A:List Ty->Type
 f:∀ ts,TyL ts->A ts
def Ab.id:Ab:=⟨fun ts=>TyL ts,fun _ s=>s⟩
structure zIF where
 d:List Nat
 os:List (Nat×Bool)
 s:List (Nat×Nat)
 b:List (Nat×List (Option Nat))
 ts:List Ty
def zIF.sh (j:zIF):Sh:=⟨j.d,j.os.map (·.1),j.s,[],[],j.b,[]⟩
structure An where
 fz:List (Nat×List (Nat×TypeId))
 lp:List (Nat×Sh)
 rg:List (Nat×Sh):=[]
 ab:List (Nat×Ab):=[]
 jn:List (Nat×zIF):=[]
def lkA.{u}{α:Type u}(i:Nat):List (Nat×α)->Option α
 | []=>none
 | (j,x)::l=>cond (Nat.beq i j) (some x) (lkA i l)
structure zFW where
 as:List Ty
 ys:List Ty
 yt:List TypeId
 F:TyL as->(γ:Type)->(γ->TyL ys->Option (γ×Bool))->γ->Option γ
def slI (g:FuncId):List (FuncId×zFW)->Option zFW
 | []=>none
 | (k,e)::l=>cond (Nat.beq g k) (some e) (slI g l)
structure YI (Γ:Type) where
 ys:List Ty
 yt:List TypeId
 stp:Γ->TyL ys->Option (Γ×Bool)
def yi0:YI Unit:=⟨[],[],fun _ _=>none⟩
abbrev CIT:Type 1:=(R:Type)->Nm->FuncId->List SV->SH->(SV->SH->zFC R)->zFC R
end Go.Sv
namespace Go.Sv
open Go.Idl
variable {a b env l:List SV}{el t:TypeId}{ik k:IntKind}{j n off w w':Nat}{v x:SV}{xs ys:List Int}
noncomputable section
variable [Gc]
variable [Yl]
variable {P:Program}{h:SH}{R:Type}{r:R}
def q9O:Value->SV
 | .agg cs=>cond (jG okC cs.toList) (.agg (kY .c cs.toList)) .unk
 | .tuple cs=>cond (jG okC cs.toList) (.tup (kY .c cs.toList)) .unk
 | v=>cond (okC v) (.c v) .unk
def kC (env:List SV):Operand->SV
 | .tmp t=>(zG env t).getD .unk
 | .const v=>q9O v
 | .global _=>.unk
 | .func g=>.c (.func (.func g) #[] #[])
theorem zCL:∀ (l:List Value),qB (kY .c l)=kY fvv l
 | []=>by simp[kY,qB]
 | v::l=>by
   show qB (.c v::kY .c l)=fvv v::kY fvv l;simp[qB,zCL l,SV.enc]
omit [Yl] in
theorem zCM:∀ (l:List Value),okL h (kY .c l)
 | []=>by simp[kY,okL]
 | v::l=>by
   show okL h (.c v::kY .c l);simp[okL,zCM l,SV.ok]
theorem q0N (v:Value):ofC v=(q9O v).enc:=by
 cases v with
 | agg cs =>
   show cond _ _ _=(cond (jG okC cs.toList) (SV.agg (kY .c cs.toList)) SV.unk).enc;cases jG okC cs.toList
   ·simp[SV.enc]
   ·simp[SV.enc,zCL]
 | tuple cs =>
   show cond _ _ _=(cond (jG okC cs.toList) (SV.tup (kY .c cs.toList)) SV.unk).enc;cases jG okC cs.toList
   ·simp[SV.enc]
   ·simp[SV.enc,zCL]
 | _ =>
   simp only[ofC,q6M,q9O];cases okC _ <;> simp[SV.enc]
omit [Yl] in
theorem q62 (v:Value):(q9O v).ok h:=by
 cases v with
 | agg cs =>
   show (cond (jG okC cs.toList) (.agg (kY .c cs.toList)) .unk:SV).ok h;cases jG okC cs.toList
   ·simp[SV.ok]
   ·simp[SV.ok,zCM]
 | tuple cs =>
   show (cond (jG okC cs.toList) (.tup (kY .c cs.toList)) .unk:SV).ok h;cases jG okC cs.toList
   ·simp[SV.ok]
   ·simp[SV.ok,zCM]
 | _ =>
   simp only[q9O];cases okC _ <;> simp[SV.ok]
theorem qW (env:List SV)(t:Nat):zG (qB env) t=(zG env t).map SV.enc:=by
 rw[qF,qF,zD,zO9]
omit [Yl] in
theorem mU {t:Nat}(ho:okL h env)(hx:zG env t=some x):x.ok h:=by
 rw[qF] at hx;exact zH.1 ho x (zP4 hx)
theorem qN (env:List SV)(x:Operand):qJ (qB env) x=(kC env x).enc:=by
 cases x with
 | tmp t =>
   show (zG (qB env) t).getD .unk=((zG env t).getD .unk).enc;rw[qW];cases zG env t <;> simp[SV.enc]
 | const v=>exact q0N v
 | global g=>simp[qJ,kC,SV.enc]
 | func g=>simp[qJ,kC,SV.enc]
omit [Yl] in
theorem mV (ho:okL h env)(x:Operand):(kC env x).ok h:=by
 cases x with
 | tmp t =>
   show ((zG env t).getD .unk).ok h
   cases hx:zG env t with
   | none=>simp[SV.ok]
   | some y=>exact mU ho hx
 | const v=>exact q62 v
 | global g=>simp[kC,SV.ok]
 | func g=>simp[kC,SV.ok]
def asI:SV->Option (IntKind×Int)
 | .d (.int k) x=>some (k,x)
 | .c (.int k x)=>some (k,x)
 | _=>none
def asB:SV->Option Bool
 | .d .bool x=>some x
 | .c (.bool x)=>some x
 | _=>none
def asS:SV->Option ByteArray
 | .d .str x=>some x
 | .c (.string x)=>some x
 | _=>none
theorem yC {x:Int}(e:asI v=some (k,x)):v.enc=fvv (.int k x):=by
 unfold asI at e;split at e
 ·cases e;simp[SV.enc,Ty.fv,fvv]
 ·cases e;simp[SV.enc]
 ·cases e
theorem sN {x:Bool}(e:asB v=some x):v.enc=fvv (.bool x):=by
 unfold asB at e;split at e
 ·cases e;simp[SV.enc,Ty.fv,fvv]
 ·cases e;simp[SV.enc]
 ·cases e
theorem fV {x:ByteArray}(e:asS v=some x):v.enc=fvv (.string x):=by
 unfold asS at e;split at e
 ·cases e;simp[SV.enc,Ty.fv,fvv]
 ·cases e;simp[SV.enc]
 ·cases e
def Ty.svs:(t:Ty)->t.sem->List SV
 | .int k,x=>[.d (.int k) x]
 | .bool,x=>[.d .bool x]
 | .str,x=>[.d .str x]
 | .unit,_=>[]
 | .list el t,x=>[.d (.list el t) x]
 | .pair a b,x=>a.svs x.1++b.svs x.2
 | .raw,x=>[.d .raw x]
 | .ol el k,x=>[.d (.ol el k) x]
 | .nif,x=>[.d .nif x]
theorem bV (a b:List SV):qB (a++b)=qB a++qB b:=by simp[zD]
theorem fP:∀ (t:Ty) (x:t.sem),qB (t.svs x)=(t.cells x).map .f
 | .int k,x=>by simp[Ty.svs,Ty.cells,qB,SV.enc,Ty.fv]
 | .bool,x=>by simp[Ty.svs,Ty.cells,qB,SV.enc,Ty.fv]
 | .str,x=>by simp[Ty.svs,Ty.cells,qB,SV.enc,Ty.fv]
 | .unit,x=>by simp[Ty.svs,Ty.cells,qB]
 | .list el t,x=>by simp[Ty.svs,Ty.cells,qB,SV.enc,Ty.fv]
 | .raw,x=>by simp[Ty.svs,Ty.cells,qB,SV.enc,Ty.fv]
 | .ol el k,x=>by simp[Ty.svs,Ty.cells,qB,SV.enc,Ty.fv]
 | .nif,x=>by simp[Ty.svs,Ty.cells,qB,SV.enc,Ty.fv]
 | .pair a b,x=>by
   show qB (a.svs x.1++b.svs x.2)=(a.cells x.1++b.cells x.2).map .f;rw[bV,fP a,fP b,zQD]
omit [Yl] in
theorem fB (x:okL h a)(y:okL h b):okL h (a++b):=zH.2 fun z hz=>by
 rcases zP0.1 hz with q | q
 ·exact zH.1 x z q
 ·exact zH.1 y z q
omit [Yl] in
theorem qE0:∀ (t:Ty) (x:t.sem),okL h (t.svs x)
 | .int k,x=>by simp[Ty.svs,okL,SV.ok]
 | .bool,x=>by simp[Ty.svs,okL,SV.ok]
 | .str,x=>by simp[Ty.svs,okL,SV.ok]
 | .unit,x=>by simp[Ty.svs,okL]
 | .list el t,x=>by simp[Ty.svs,okL,SV.ok]
 | .raw,x=>by simp[Ty.svs,okL,SV.ok]
 | .ol el k,x=>by simp[Ty.svs,okL,SV.ok]
 | .nif,x=>by simp[Ty.svs,okL,SV.ok]
 | .pair a b,x=>fB (qE0 a x.1) (qE0 b x.2)
def q7V (k:IntKind)(v:SV):Option Int:=match asI v with
 | some (k',x)=>cond (decide (k'=k)) (some x) none
 | none=>none
def zCV (el:TypeId)(t:Ty):SV->Option (List t.sem)
 | .d (.list el' t') xs=>if e:t'=t then cond (Nat.beq el' el) (some (e ▸ xs)) none else none
 | _=>none
def asR:SV->Option (List (Value×Value))
 | .d .raw x=>some x
 | _=>none
def q7B (el:TypeId)(k:IntKind):SV->Option (List Int)
 | .d (.ol el' k') xs=>cond (Nat.beq el' el&&decide (k'=k)) (some xs) none
 | .c (.slice none 0 0)=>some []
 | _=>none
def q64:SV->Option Unit
 | .d .nif _=>some ()
 | .c .nilIface=>some ()
 | _=>none
def Ty.zJW:(t:Ty)->SV->Option t.sem
 | .int k,v=>q7V k v
 | .bool,v=>asB v
 | .str,v=>asS v
 | .list el t,v=>zCV el t v
 | .unit,_=>none
 | .pair _ _,_=>none
 | .raw,v=>asR v
 | .ol el k,v=>q7B el k v
 | .nif,v=>q64 v
theorem pX {x:Int}(e:q7V k v=some x):v.enc=fvv (.int k x):=by
 unfold q7V at e;split at e
 ·rename_i k' x' hx
  cases hk:decide (k'=k) with
  | false=>rw[hk] at e;cases e
  | true =>
    rw[hk] at e;cases e;have:k'=k:=by simpa using hk
    subst this;exact yC hx
 ·cases e
omit [Yl] in
theorem q3H {t:Ty}{x:List t.sem}(e:zCV el t v=some x):v=.d (.list el t) x:=by
 unfold zCV at e;split at e
 ·rename_i el' t' xs;split at e
  ·rename_i ht;subst ht
   cases hk:Nat.beq el' el with
   | false=>rw[hk] at e;cases e
   | true =>
     rw[hk] at e;cases e;have:el'=el:=zOU hk;subst this;rfl
  ·cases e
 ·cases e
theorem qUJ {x:List Int}(e:q7B el k v=some x):v.enc=.f (fvo el k x):=by
 unfold q7B at e;split at e
 ·rename_i el' k' xs
  cases hk:(Nat.beq el' el&&decide (k'=k)) with
  | false=>rw[hk] at e;cases e
  | true =>
    rw[hk] at e;cases e;rw[zOT] at hk;have h1:el'=el:=zOU hk.1;have h2:k'=k:=by simpa using hk.2
    subst h1 h2;simp[SV.enc,Ty.fv]
 ·cases e;simp[SV.enc,fvo,fvv]
 ·cases e
theorem qAY:∀ {t:Ty} {v:SV} {x:t.sem},t.zJW v=some x->v.enc=.f (t.fv x)∧t.one=true
 | .int k,v,x,e=>⟨pX e,rfl⟩
 | .bool,v,x,e=>⟨sN e,rfl⟩
 | .str,v,x,e=>⟨fV e,rfl⟩
 | .list el t,v,x,e=>⟨by rw[q3H e];simp[SV.enc],rfl⟩
 | .ol el k,v,x,e=>⟨qUJ e,rfl⟩
 | .nif,v,x,e=>by
   have e:q64 v=some x:=e;refine⟨?_,rfl⟩;unfold q64 at e;split at e
   ·simp[SV.enc,Ty.fv]
   ·simp[SV.enc,Ty.fv,fvv]
   ·cases e
 | .raw,v,x,e=>by
   have e:asR v=some x:=e;refine⟨?_,rfl⟩;unfold asR at e;split at e
   ·cases e;simp[SV.enc]
   ·cases e
 | .unit,v,x,e=>by cases e
 | .pair a b,v,x,e=>by cases e
def qZ8 (t:Ty):List SV->Option (t.sem×List SV)
 | v::l=>match t.zJW v with
   | some x=>some (x,l)
   | none=>none
 | []=>none
def Ty.zIG:(t:Ty)->List SV->Option (t.sem×List SV)
 | .int k,l=>qZ8 (.int k) l
 | .bool,l=>qZ8 .bool l
 | .str,l=>qZ8 .str l
 | .raw,l=>qZ8 .raw l
 | .ol el k,l=>qZ8 (.ol el k) l
 | .nif,l=>qZ8 .nif l
 | .list el t,l=>qZ8 (.list el t) l
 | .unit,l=>some ((),l)
 | .pair a b,l=>match a.zIG l with
   | some (x,l1)=>(match b.zIG l1 with
     | some (y,l2)=>some ((x,y),l2)
     | none=>none)
   | none=>none
theorem fO {t:Ty}{l':List SV}{x:t.sem}(e:qZ8 t l=some (x,l')):qB l=(t.cells x).map .f++qB l':=by
 cases l with
 | nil=>cases e
 | cons v l =>
   unfold qZ8 at e;simp only at e;split at e
   ·rename_i y hy;cases e;obtain⟨h1,h2⟩:=qAY hy;rw[Ty.cells_one h2];simp[qB,h1]
   ·cases e
theorem qAD:∀ {t:Ty} {l l':List SV} {x:t.sem},t.zIG l=some (x,l')->qB l=(t.cells x).map .f++qB l'
 | .int k,l,l',x,e=>fO e
 | .bool,l,l',x,e=>fO e
 | .str,l,l',x,e=>fO e
 | .raw,l,l',x,e=>fO e
 | .ol _ _,l,l',x,e=>fO e
 | .nif,l,l',x,e=>fO e
 | .list el t,l,l',x,e=>fO e
 | .unit,l,l',x,e=>by cases e;simp[Ty.cells]
 | .pair a b,l,l',x,e=>by
   unfold Ty.zIG at e;split at e
   ·rename_i x1 l1 h1;split at e
    ·rename_i y l2 h2;cases e;show qB l=(a.cells x1++b.cells y).map .f++qB l';rw[qAD h1,qAD h2,zQD,zPT]
    ·cases e
   ·cases e
def Ty.zH0 (t:Ty)(l:List SV):Option t.sem:=match t.zIG l with
 | some (x,[])=>some x
 | _=>none
theorem nW {t:Ty}{x:t.sem}(e:t.zH0 l=some x):qB l=(t.cells x).map .f:=by
 unfold Ty.zH0 at e;split at e
 ·rename_i y hy;cases e;rw[qAD hy];simp[qB]
 ·cases e
def qF4 (P:Program)(t:TypeId)(l:List SV)(off:Nat):Option SV:=match qL9 P t with
 | some true=>(match szT P t with
   | some n=>cond (Nat.ble (off+n) l.length) (some (.agg ((l.drop off).take n))) none
   | none=>none)
 | some false=>zG l off
 | none=>none
omit [Yl] in
theorem qOR {b:List SV}(x:okL h a)(hs:∀ z∈b,z∈a):okL h b:=zH.2 fun z hz=>zH.1 x z (hs z hz)
theorem qGG (e:qF4 P t l off=some v):aQ P t (qB l) off=some v.enc∧(okL h l->v.ok h):=by
 unfold qF4 at e;unfold aQ;split at e
 ·rename_i ha;rw[ha];simp only;split at e
  ·rename_i n hn;rw[hn];simp only
   cases hc:Nat.ble (off+n) l.length with
   | false=>rw[hc] at e;cases e
   | true =>
     rw[hc] at e;cases e;refine⟨by rw[zD,zO5,hc];simp[SV.enc,zD,zQ9,zQ3],fun ho=>?_⟩;simp only[SV.ok];exact qOR ho fun z hz=>zRT (zRS hz)
  ·cases e
 ·rename_i ha;rw[ha];simp only;rw[qW,e];exact⟨rfl,fun ho=>mU ho e⟩
 ·cases e
theorem qBE {t':Ty}{xs:List t'.sem}{x:t'.sem}(hx:xs[j]?=some x)(e:qF4 P t (t'.svs x) off=some v) :
 aQ P t ((xs.flatMap t'.cells).map .f) (j*t'.w+off)=some v.enc∧qNK P t (xs.flatMap t'.cells) (j*t'.w+off)=some v.enc∧v.ok h:=by
 have h0:=qGG (h:=h) e;refine⟨?_,?_,h0.2 (qE0 t' x)⟩
 all_goals
  have h1:=h0.1;rw[fP] at h1;unfold aQ at h1
 ·unfold aQ;split at h1
  ·rename_i ha;split at h1
   ·rename_i n hn
    cases hc:Nat.ble (off+n) ((t'.cells x).map PV.f).length with
    | false=>rw[hc] at h1;cases h1
    | true =>
      rw[hc] at h1
      have hle:off+n<=t'.w:=by
       have:=zO2 hc;rw[zO5,t'.zFM] at this;exact this
      rw[show Nat.ble (j*t'.w+off+n) ((xs.flatMap t'.cells).map PV.f).length=true from zPD (by rw[zO5];exact qHI hx hle)];simp only[cond_true] at h1 ⊢;rw[<-h1,<-zQ9,<-zQ3,qLS hx hle,<-zQ9,<-zQ3]
   ·cases h1
  ·rename_i ha;rw[qF,zO9] at h1 ⊢
   have hlt:off < t'.w:=by
    rw[<-t'.zFM x]
    cases hq:(t'.cells x)[off]? with
    | none=>rw[hq] at h1;cases h1
    | some y=>exact (zOZ.1 hq).1
   rw[Go.Sv.flat_get hx hlt];exact h1
  ·cases h1
 ·unfold qNK;split at h1
  ·rename_i ha;split at h1
   ·rename_i n hn
    cases hc:Nat.ble (off+n) ((t'.cells x).map PV.f).length with
    | false=>rw[hc] at h1;cases h1
    | true =>
      rw[hc] at h1
      have hle:off+n<=t'.w:=by
       have:=zO2 hc;rw[zO5,t'.zFM] at this;exact this
      rw[show Nat.ble (j*t'.w+off+n) (xs.flatMap t'.cells).length=true from zPD (qHI hx hle)];simp only[cond_true] at h1 ⊢;rw[<-h1,qLS hx hle,<-zQ9,<-zQ3]
   ·cases h1
  ·rename_i ha;rw[qF,zO9] at h1
   cases hq:(t'.cells x)[off]? with
   | none=>rw[hq] at h1;cases h1
   | some y =>
     rw[hq] at h1
     have hlt:off < t'.w:=by
      rw[<-t'.zFM x];exact (zOZ.1 hq).1
     rw[Go.Sv.flat_get hx hlt,hq];exact h1
  ·cases h1
def zCG:List SV->Option IntKind
 | v::_=>(asI v).map Prod.fst
 | []=>none
def qB2 (ik:IntKind):List SV->Option (List Int)
 | []=>some []
 | v::l=>match q7V ik v,qB2 ik l with
   | some x,some xs=>some (x::xs)
   | _,_=>none
def qZX (off:Nat)(v:Int)(xs:List Int):Option (List Int):=if off < xs.length then some (xs.set off v) else none
def spread (ik:IntKind)(n:Nat)(ys:List Int):List SV:=(List.range n).map fun i=>SV.d (.int ik) (ys.getD i 0:Int)
theorem wU {ik:IntKind}:∀ {l:List SV} {xs:List Int},qB2 ik l=some xs->qB l=xs.map fun x=>fvv (.int ik x)
 | [],xs,e=>by cases e;simp[qB]
 | v::l,xs,e=>by
   unfold qB2 at e;split at e
   ·rename_i x ys hx hy;cases e;simp only[qB,zPB,pX hx,wU hy]
   ·cases e
theorem sU (h:ys.length=n):qB (spread ik n ys)=ys.map fun x=>fvv (.int ik x):=by
 rw[zD];unfold spread;rw[zQ5];apply zQF;intro i;rw[zO9,zO9];by_cases hi:i < n
 ·rw[zTD hi,zOX (by omega:i < ys.length)];simp only[zO7,Function.comp,zO1];rw[zPX,zOX (by omega:i < ys.length)];simp[SV.enc,Ty.fv,fvv]
 ·rw[zP8 (by simp;omega),zP8 (by omega)];rfl
theorem qJS:okL h (spread ik n ys):=zH.2 fun x hx=>by
 unfold spread at hx;obtain⟨i,_,rfl⟩:=zPL.1 hx;simp[SV.ok]
def zCK (P:Program)(t:TypeId)(off w:Nat)(el:TypeId)(ik:IntKind)(xs:List Int)(K:SV->zFC R):zFC R:=cond (spec P el) .fail (match qL9 P t,szT P t with
 | some false,_=>.ite (Nat.beq w (List.length xs)) (.bind (xs[off]?) fun x=>K (.d (.int ik) (x:Int))) .fail
 | some true,some n=>cond (Nat.beq off 0&&Nat.beq n w) (.ite (Nat.beq w (List.length xs)) (K (.agg (spread ik w xs))) .fail) .fail
 | _,_=>.fail)
theorem qXC {k:Nat}{K:SV->zFC R}(hk:qA k (qC h.l)=some (SO.spc w' (.arr el ik xs)).enc)(e:(zCK P t off w el ik xs K).run=some r):∃ v,fZ P t (.ref k w off) (qC h.l)=some v.enc∧v.ok h∧(K v).run=some r:=by
 unfold zCK at e
 cases hsp:spec P el with
 | true=>rw[hsp] at e;cases e
 | false =>
 rw[hsp] at e;simp only[cond_false] at e
 have pre:fZ P t (.ref k w off) (qC h.l)=cond (Nat.beq w xs.length) (aQ P t (xs.map fun x=>fvv (.int ik x)) off) none:=by
  simp only[fZ,hk];show cond (spec P el) none (cond (Nat.beq w (xs.map fun x=>fvv (.int ik x)).length) _ none)=_;rw[hsp,zO5];rfl
 rw[pre];split at e
 ·rename_i ha
  rcases run_ite e with ⟨z,e1⟩ | ⟨_,e1⟩
  ·obtain⟨x,hx,e2⟩:=run_bind e1;refine⟨_,?_,by simp[SV.ok],e2⟩;rw[z];simp only[cond_true,aQ,ha];rw[qF,zO9,hx];simp[SV.enc,Ty.fv,fvv]
  ·cases e1
 ·rename_i n ha hn;obtain⟨c,e0⟩:=qE e;rw[zOT] at c;have h0:=zOU c.1;have h1:=zOU c.2;subst h0 h1
  rcases run_ite e0 with ⟨z,e1⟩ | ⟨_,e1⟩
  ·refine⟨_,?_,by simp only[SV.ok];exact qJS,e1⟩;have hl:=zOU z;rw[z];simp only[cond_true,aQ,ha,hn];rw[show Nat.ble (0+n) (xs.map fun x=>fvv (.int ik x)).length=true from zPD (by rw[zO5];omega)];simp only[cond_true,zQH,SV.enc];rw[sU hl.symm,zPI (by rw[zO5];omega)]
  ·cases e1
 ·cases e
def q8J (P:Program)(t:TypeId)(a:SV)(h:SH)(K:SV->zFC R):zFC R:=match a with
 | .ref k off w=>(match slk k h.l with
   | some (.cells el _ l)=>(match qF4 P t l off with
     | some v=>cond (!(spec P el)&&Nat.beq w l.length) (K v) .fail
     | none=>.fail)
   | some (.spc _ (.arr el ik xs))=>zCK P t off w el ik xs K
   | _=>.fail)
 | .elt k g n w j off=>(match slk k h.l with
   | some (.list _ _ g' _ t' xs)=>cond (Nat.beq g g'&&Nat.beq w t'.w) (.bind (xs[j]?) fun x=>match qF4 P t (t'.svs x) off with
     | some v=>K v
     | none=>.fail) .fail
   | _=>.fail)
 | .lp t' xs j off=>.bind (xs[j]?) fun x=>match qF4 P t (t'.svs x) off with
   | some v=>K v
   | none=>.fail
 | .rfx k off w=>(match slk k h.l with
   | some (.cells el _ l)=>(match zCG l with
     | some ik=>(match qB2 ik l,qL9 P t with
       | some xs,some false=>cond (!(spec P el)&&Nat.beq w l.length) (.bind (xs[off]?) fun x=>K (.d (.int ik) (x:Int))) .fail
       | _,_=>.fail)
     | none=>.fail)
   | some (.spc _ (.arr el ik xs))=>zCK P t off w el ik xs K
   | _=>.fail)
 | .etx k g n w j off=>(match slk k h.l with
   | some (.list _ _ g' _ t' xs)=>cond (Nat.beq g g'&&Nat.beq w t'.w) (.bind (xs[j]?) fun x=>match zCG (t'.svs x) with
     | some ik=>(match qB2 ik (t'.svs x),qL9 P t with
       | some ys,some false=>.bind (ys[off]?) fun z=>K (.d (.int ik) (z:Int))
       | _,_=>.fail)
     | none=>.fail) .fail
   | _=>.fail)
 | _=>.fail
theorem qP (l:List SV):(qB l).length=l.length:=by rw[zD,zO5]
theorem zI {k:Nat}{ob:SO}{l:List (Nat×SO)}(e:slk k l=some ob):qA k (qC l)=some ob.enc:=by rw[vJ,e];rfl
theorem qU {gr:Bool}{g:Nat}{t:Ty}{xs:List t.sem}:(SO.list el gr g w t xs).enc.cs.length=xs.length*t.w:=by
 show ((xs.flatMap t.cells).map PV.f).length=_;rw[zO5,zR]
theorem q1V {a:SV}{K:SV->zFC R}(ho:OkH P h)(ha:a.ok h)(e:(q8J P t a h K).run=some r):∃ v,fZ P t a.enc (qC h.l)=some v.enc∧v.ok h∧(K v).run=some r:=by
 unfold q8J at e;split at e
 ·rename_i k off w;split at e
  ·rename_i el w' l hk;split at e
   ·rename_i v hv;obtain⟨h1,h2⟩:=qE e;rw[zOT,zPN] at h1;obtain⟨hsp,h1⟩:=h1;obtain⟨h3,h4⟩:=qGG (h:=h) hv;refine⟨v,?_,h4 (ho.cells _ _ _ _ hk),h2⟩;simp only[SV.enc,fZ,zI hk];show cond (spec P el) none (cond (Nat.beq w (qB l).length) (aQ P t (qB l) off) none)=_;rw[qP,h1,hsp];exact h3
   ·cases e
  ·rename_i w' el ik xs hk;obtain⟨v,h1,h2,h3⟩:=qXC (zI hk) e;exact⟨v,by simp only[SV.enc];exact h1,h2,h3⟩
  ·cases e
 ·rename_i k g n w j off;split at e
  ·rename_i el gr g' w' t' xs hk;obtain⟨h1,h2⟩:=qE e;rw[zOT] at h1;have hg:g=g':=zOU h1.1;have hw:w=t'.w:=zOU h1.2;subst hg hw;obtain⟨x,hx,h3⟩:=run_bind h2;split at h3
   ·rename_i v hv;have h5:=qBE (h:=h) hx hv;refine⟨v,?_,h5.2.2,h3⟩;simp only[SV.ok] at ha;have hn:n=xs.length:=ha.2 _ _ _ _ _ hk;simp only[SV.enc,fZ,zI hk];rw[qU,hn,show spec P (SO.list el gr g w' t' xs).enc.el=false from kG (ho.list _ _ _ _ _ _ _ hk).2.1];simp only[aM,cond_true,cond_false];exact h5.1
   ·cases h3
  ·cases e
 ·rename_i t' xs j off;obtain⟨x,hx,h3⟩:=run_bind e;split at h3
  ·rename_i v hv;have h5:=qBE (h:=h) hx hv;exact⟨v,by simp only[SV.enc,fZ];exact h5.2.1,h5.2.2,h3⟩
  ·cases h3
 ·rename_i k off w;split at e
  ·rename_i el w' l hk;split at e
   ·rename_i ik hik;split at e
    ·rename_i xs hxs hag;obtain⟨h1,h2⟩:=qE e;rw[zOT,zPN] at h1;obtain⟨hsp,h1⟩:=h1;obtain⟨x,hx,h3⟩:=run_bind h2;refine⟨_,?_,by simp[SV.ok],h3⟩;simp only[SV.enc,fZ,zI hk];show cond (spec P el) none (cond (Nat.beq w (qB l).length) (aQ P t (qB l) off) none)=_;rw[qP,h1,hsp];simp only[cond_true,cond_false];unfold aQ;rw[hag];show zG (qB l) off=_;rw[qF,wU hxs,zO9,hx];simp[Ty.fv,fvv]
    ·cases e
   ·cases e
  ·rename_i w' el ik xs hk;obtain⟨v,h1,h2,h3⟩:=qXC (zI hk) e;exact⟨v,by simp only[SV.enc];exact h1,h2,h3⟩
  ·cases e
 ·rename_i k g n w j off;split at e
  ·rename_i el gr g' w' t' xs hk;obtain⟨h1,h2⟩:=qE e;rw[zOT] at h1;have hg:g=g':=zOU h1.1;have hw:w=t'.w:=zOU h1.2;subst hg hw;obtain⟨x,hx,h3⟩:=run_bind h2;split at h3
   ·rename_i ik hik;split at h3
    ·rename_i ys hys hag;obtain⟨z,hz,h4⟩:=run_bind h3;refine⟨_,?_,by simp[SV.ok],h4⟩;have hn1:zG (qB (t'.svs x)) off=some (fvv (.int ik z)):=by rw[qF,wU hys,zO9,hz];rfl
     rw[qW] at hn1;obtain⟨v0,hv0,hv1⟩:=zO6.1 hn1;have hsp:qF4 P t (t'.svs x) off=some v0:=by unfold qF4;rw[hag];exact hv0
     have h5:=qBE (h:=h) hx hsp;simp only[SV.ok] at ha;have hn:n=xs.length:=ha.2 _ _ _ _ _ hk;simp only[SV.enc,fZ,zI hk];rw[qU,hn,show spec P (SO.list el gr g w' t' xs).enc.el=false from kG (ho.list _ _ _ _ _ _ _ hk).2.1];simp only[aM,cond_true,cond_false];have h6:=h5.1;rw[hv1] at h6;rw[show (SO.list el gr g w' t' xs).enc.cs=(xs.flatMap t'.cells).map .f from rfl,h6];simp[Ty.fv,fvv]
    ·cases h3
   ·cases h3
  ·cases e
 ·cases e
def Post (P:Program)(h h':SH)(v:SV):Prop:=Keep h h'∧OkH P h'∧v.ok h'
def yJ:SV->List SV
 | .agg l=>l
 | v=>[v]
theorem dW (v:SV):zC v.enc=qB (yJ v):=by
 cases v <;> simp[SV.enc,zC,yJ,qB,fvv];rename_i b _ _ _;cases b <;> rfl
omit [Yl] in
theorem qBR (hv:v.ok h):okL h (yJ v):=by
 cases v <;> simp only[yJ,okL,SV.ok,and_true] at hv ⊢ <;> exact hv
def qC8 (l:List SV)(i:Nat)(vs:List SV):List SV:=l.take i++vs++l.drop (i+vs.length)
theorem qCG (l vs:List SV)(i:Nat):qB (qC8 l i vs)=yF (qB l) i (qB vs):=by
 simp[qC8,yF,zD,zQ3,zQ9]
omit [Yl] in
theorem qQR {vs:List SV}{i:Nat}(a:okL h l)(b:okL h vs):okL h (qC8 l i vs) :=
 fB (fB (qOR a fun z hz=>zRS hz) b) (qOR a fun z hz=>zRT hz)
omit [Yl] in
theorem q2G {α:Type}(A B C:List α)(c:List α)(hle:off+c.length<=B.length) :
 (A++B++C).take (A.length+off)++c++(A++B++C).drop (A.length+off+c.length)=A++(B.take off++c++B.drop (off+c.length))++C:=by
 rw[zPT A B C,List.take_append,zPI (by omega),zSO,List.take_append_of_le_length (by omega)];rw[zQU,List.drop_append,zST (by omega),zSO,List.nil_append,List.drop_append_of_le_length (by omega)];simp[zPT]
omit [Yl] in
theorem qES {t:Ty}{xs:List t.sem}{x:t.sem}(hx:xs[j]?=some x)(y:t.sem):(xs.set j y).flatMap t.cells=(xs.take j).flatMap t.cells++t.cells y++(xs.drop (j+1)).flatMap t.cells:=by
 have hl:=(zOZ.1 hx).1;rw[zQ7,if_pos hl,zR0,zPO,zPT]
omit [Yl] in
theorem qFN {t:Ty}{xs:List t.sem}{x y:t.sem}(hx:xs[j]?=some x){c:List PV}(hle:off+c.length<=t.w)(hy:yF ((t.cells x).map .f) off c=(t.cells y).map .f) :
 yF ((xs.flatMap t.cells).map .f) (j*t.w+off) c=((xs.set j y).flatMap t.cells).map .f:=by
 have hl:=(zOZ.1 hx).1
 have e0:xs.set j x=xs:=by
  apply zQF;intro i;rw[zPM];by_cases e:j=i
  ·subst e;rw[if_pos rfl,if_pos hl,hx]
  ·rw[if_neg e]
 have e1:=qES hx x;rw[e0] at e1;rw[qES hx y,e1];simp only[zQD];unfold yF;have hA:(((xs.take j).flatMap t.cells).map PV.f).length=j*t.w:=by rw[zO5,zR,zQE,zQN (by omega)]
 rw[<-hA,q2G _ _ _ _ (by rw[zO5,t.zFM];exact hle)];unfold yF at hy;rw[hy]
def zB9 (P:Program)(n off w:Nat)(el:TypeId)(ik:IntKind)(xs:List Int)(k:Nat)(x:SV)(h:SH)(K:SV->SH->zFC R):zFC R:=cond (spec P el) .fail (match x with
 | .agg l=>(match qB2 ik l with
   | some ys=>cond (Nat.beq off 0&&(Nat.beq n w&&Nat.beq n (List.length l))) (.ite (Nat.beq w (List.length xs)) (K (.tup []) (h.put k fun u=>.spc u (.arr el ik ys))) .fail) .fail
   | none=>.fail)
 | x=>(match q7V ik x with
   | some v=>cond (Nat.beq n 1) (.ite (Nat.beq w (List.length xs)) (.bind (qZX off v xs) fun ys=>K (.tup []) (h.put k fun u=>.spc u (.arr el ik ys))) .fail) .fail
   | none=>.fail))
theorem qJR {ik:IntKind}:∀ {l:List SV} {xs:List Int},qB2 ik l=some xs->xs.length=l.length
 | [],xs,e=>by cases e;rfl
 | v::l,xs,e=>by
   unfold qB2 at e;split at e
   ·rename_i x ys hx hy;cases e;simp[qJR hy]
   ·cases e
theorem qUE {k:Nat}{K:SV->SH->zFC R}(ho:OkH P h)(hn:szT P t=some n)(hk:slk k h.l=some (.spc w' (.arr el ik xs)))(e:(zB9 P n off w el ik xs k x h K).run=some r) :
 ∃ h',jO P t (.ref k w off) x.enc (qC h.l)=some (qC h'.l)∧Keep h h'∧OkH P h'∧(K (.tup []) h').run=some r:=by
 unfold zB9 at e
 cases hsp:spec P el with
 | true=>rw[hsp] at e;cases e
 | false =>
 rw[hsp] at e;simp only[cond_false] at e;have hp:∀ ys:List Int,Keep h (h.put k fun u=>.spc u (.arr el ik ys))∧OkH P (h.put k fun u=>.spc u (.arr el ik ys)):=fun ys=>vU (f:=fun u=>.spc u (.arr el ik ys)) ho hk rfl
 have pre:jO P t (.ref k w off) x.enc (qC h.l)=cond (Nat.beq w xs.length&&(Nat.beq n (zC x.enc).length&&(Nat.ble (off+n) xs.length&&(pnt x.enc&&(zC x.enc).all aO)))) (some (xN k ⟨el,false,yF (xs.map fun x=>fvv (.int ik x)) off (zC x.enc)⟩ (qC h.l))) none:=by
  simp only[jO,zI hk,hn];show cond (spec P el) none (cond (Nat.beq w (xs.map fun x=>fvv (.int ik x)).length&&(Nat.beq n (zC x.enc).length&&(Nat.ble (off+n) (xs.map fun x=>fvv (.int ik x)).length&&(pnt x.enc&&(zC x.enc).all aO)))) _ none)=_;rw[hsp,zO5];rfl
 have fin:∀ ys:List Int,qC (h.put k fun u=>.spc u (.arr el ik ys)).l=xN k ⟨el,false,ys.map fun x=>fvv (.int ik x)⟩ (qC h.l):=fun ys=>xU k _ _
 split at e
 ·rename_i l;split at e
  ·rename_i ys hys;obtain⟨c,e0⟩:=qE e;simp only[zOT] at c;have h0:=zOU c.1;have h1:=zOU c.2.1;have h2:=zOU c.2.2;subst h0
   rcases run_ite e0 with ⟨z,e1⟩ | ⟨_,e1⟩
   ·have hl:=zOU z;refine⟨_,?_,(hp ys).1,(hp ys).2,e1⟩;rw[pre,fin ys];have hle:=qJR hys;simp only[SV.enc,zC,wU hys,zO5];rw[z,show Nat.beq n ys.length=true by rw[hle,<-h2];exact aM _,show Nat.ble (0+n) xs.length=true from zPD (by omega),show ((ys.map fun x=>fvv (.int ik x)).all aO)=true by simp[zOW,fvv,aO]];simp only[pnt,zPQ,cond_true];unfold yF;rw[List.take_zero,zST (by simp only[zO5];omega)];simp
   ·cases e1
  ·cases e
 ·split at e
  ·rename_i v hv;obtain⟨c,e0⟩:=qE e;have h1:=zOU c;subst h1
   rcases run_ite e0 with ⟨z,e1⟩ | ⟨_,e1⟩
   ·obtain⟨ys,hys,e2⟩:=run_bind e1;unfold qZX at hys;split at hys
    case isFalse=>cases hys
    rename_i hlt;cases hys;refine⟨_,?_,(hp _).1,(hp _).2,e2⟩;rw[pre,fin,pX hv];rw[show Nat.ble (off+1) xs.length=true from zPD hlt,z];show some (xN k ⟨el,false,yF (xs.map fun x=>fvv (.int ik x)) off [fvv (.int ik v)]⟩ (qC h.l))=_
    have:yF (xs.map fun x=>fvv (.int ik x)) off [fvv (.int ik v)]=(xs.set off v).map fun x=>fvv (.int ik x):=by
     rw[List.map_set,zQ7,if_pos (by rw[zO5];exact hlt)];unfold yF;simp
    rw[this]
   ·cases e1
  ·cases e
def qU1 (P:Program)(t:TypeId)(a x:SV)(h:SH)(K:SV->SH->zFC R):zFC R:=match szT P t with
 | some n=>(match a with
   | .ref k off w=>(match slk k h.l with
     | some (.cells el _ l)=>cond (!(spec P el)&&(Nat.beq w l.length&&(Nat.beq n (yJ x).length&&(Nat.ble (off+n) l.length&&(pnt x.enc&&(qB (yJ x)).all aO)))))
        (K (.tup []) (h.put k fun v=>.cells el v (qC8 l off (yJ x)))) .fail
     | some (.spc _ (.arr el ik xs))=>zB9 P n off w el ik xs k x h K
     | _=>.fail)
   | .elt k g m w j off=>(match slk k h.l with
     | some (.list el gr g' _ t' xs)=>cond (Nat.beq g g'&&(Nat.beq w t'.w&&(Nat.beq n (yJ x).length&&(Nat.ble (off+n) w&&(pnt x.enc&&(qB (yJ x)).all aO)))))
        (.bind (xs[j]?) fun y=>match t'.zH0 (qC8 (t'.svs y) off (yJ x)) with
          | some z=>K (.tup []) (h.put k fun v=>.list el gr g v t' (List.set xs j z))
          | none=>.fail) .fail
     | _=>.fail)
   | .rfx k off w=>(match slk k h.l with
     | some (.cells el _ l)=>(match zCG l with
       | some ik=>(match qB2 ik l,q7V ik x with
         | some xs,some v=>cond (!(spec P el)&&(Nat.beq w l.length&&Nat.beq n 1)) (.bind (qZX off v xs) fun ys=>K (.tup []) (h.put k fun u=>.cells el u (spread ik (List.length xs) ys))) .fail
         | _,_=>.fail)
       | none=>.fail)
     | some (.spc _ (.arr el ik xs))=>zB9 P n off w el ik xs k x h K
     | _=>.fail)
   | .etx k g m w j off=>(match slk k h.l with
     | some (.list el gr g' _ t' xs)=>cond (Nat.beq g g'&&(Nat.beq w t'.w&&Nat.beq n 1)) (.bind (xs[j]?) fun y=>match zCG (t'.svs y) with
       | some ik=>(match qB2 ik (t'.svs y),q7V ik x with
         | some ys,some v=>.bind (qZX off v ys) fun zs=>match t'.zH0 (spread ik (List.length ys) zs) with
           | some z=>K (.tup []) (h.put k fun v=>.list el gr g v t' (List.set xs j z))
           | none=>.fail
         | _,_=>.fail)
       | none=>.fail) .fail
     | _=>.fail)
   | _=>.fail)
 | none=>.fail
theorem qY7 {a:SV}{K:SV->SH->zFC R}(ho:OkH P h)(ha:a.ok h)(hx:x.ok h)(e:(qU1 P t a x h K).run=some r) :
 ∃ h',jO P t a.enc x.enc (qC h.l)=some (qC h'.l)∧Keep h h'∧OkH P h'∧(K (.tup []) h').run=some r:=by
 unfold qU1 at e;split at e
 ·rename_i n hn;split at e
  ·rename_i k off w;split at e
   ·rename_i el w' l hk;obtain⟨h1,h2⟩:=qE e;rw[zOT,zPN] at h1;obtain⟨hsp,h1⟩:=h1;have hp:=vU (f:=fun v=>.cells el v (qC8 l off (yJ x))) ho hk ⟨rfl,qQR (ho.cells _ _ _ _ hk) (qBR hx)⟩;refine⟨_,?_,hp.1,hp.2,h2⟩;simp only[SV.enc,jO,zI hk,hn];show cond (spec P el) none (cond (Nat.beq w (qB l).length&&(Nat.beq n (zC x.enc).length&&(Nat.ble (off+n) (qB l).length&&(pnt x.enc&&(zC x.enc).all aO)))) _ _)=_;rw[dW,qP,qP,h1,hsp];simp only[cond_true];rw[show qC (h.put k fun v=>.cells el v (qC8 l off (yJ x))).l=xN k (SO.enc (.cells el h.next (qC8 l off (yJ x)))) (qC h.l) from xU k _ _];show some (xN k ⟨el,false,yF (qB l) off (qB (yJ x))⟩ (qC h.l))=some (xN k ⟨el,false,qB (qC8 l off (yJ x))⟩ (qC h.l));rw[qCG]
   ·rename_i w' el ik xs hk;obtain⟨h',h1,h2,h3,h4⟩:=qUE (t:=t) ho hn hk e;exact⟨h',by simp only[SV.enc];exact h1,h2,h3,h4⟩
   ·cases e
  ·rename_i k g m w j off;split at e
   ·rename_i el gr g' w' t' xs hk;obtain⟨h1,h2⟩:=qE e;simp only[zOT] at h1;obtain⟨q1,q2,q3,q4,q5,q6⟩:=h1;have hg:g=g':=zOU q1;have hw:w=t'.w:=zOU q2;subst hg hw;obtain⟨y,hy,h3⟩:=run_bind h2;split at h3
    ·rename_i z hz;have hp:=vU (f:=fun v=>.list el gr g v t' (List.set xs j z)) ho hk ⟨_,rfl,by simp⟩;refine⟨_,?_,hp.1,hp.2,h3⟩;simp only[SV.ok] at ha;have hm:m=xs.length:=ha.2 _ _ _ _ _ hk;have hle:off+n<=t'.w:=zO2 q4;simp only[SV.enc,jO,zI hk,hn];rw[qU,hm,dW,qP,show spec P (SO.list el gr g w' t' xs).enc.el=false from kG (ho.list _ _ _ _ _ _ _ hk).2.1]
     have hjl:j*t'.w+off+n<=xs.length*t'.w:=by
      have:=qHI hy hle
      rwa [zR] at this
     rw[q3,q5,q6,show Nat.ble (j*t'.w+off+n) (xs.length*t'.w)=true from zPD hjl];simp only[aM,zPQ,cond_true,cond_false];rw[show qC (h.put k fun v=>.list el gr g v t' (List.set xs j z)).l=xN k (SO.enc (.list el gr g h.next t' (List.set xs j z))) (qC h.l) from xU k _ _];show some (xN k ⟨el,gr,yF ((xs.flatMap t'.cells).map .f) (j*t'.w+off) (qB (yJ x))⟩ (qC h.l))=some (xN k ⟨el,gr,((List.set xs j z).flatMap t'.cells).map .f⟩ (qC h.l));have hnl:n=(qB (yJ x)).length:=by rw[qP];exact zOU q3
     rw[qFN hy (y:=z) (by rw[<-hnl];exact hle) (by rw[<-fP,<-qCG];exact nW hz)]
    ·cases h3
   ·cases e
  ·rename_i k off w;split at e
   ·rename_i el w' l hk;split at e
    ·rename_i ik hik;split at e
     ·rename_i xs v hxs hv;obtain⟨h1,h2⟩:=qE e;simp only[zOT,zPN] at h1;obtain⟨hsp,hw,hn1⟩:=h1;have hn2:=zOU hn1;subst hn2;obtain⟨ys,hys,h3⟩:=run_bind h2;unfold qZX at hys;split at hys
      case isFalse=>cases hys
      rename_i hlt;cases hys;have hp:=vU (f:=fun u=>.cells el u (spread ik (List.length xs) (xs.set off v))) ho hk ⟨rfl,qJS⟩;refine⟨_,?_,hp.1,hp.2,h3⟩;have hel:=wU hxs;have hll:(qB l).length=xs.length:=by rw[hel,zO5]
      simp only[SV.enc,jO,zI hk,hn];rw[pX hv];show cond (spec P el) none (cond (Nat.beq w (qB l).length&&(Nat.beq 1 1&&(Nat.ble (off+1) (qB l).length&&(true&&true)))) (some (xN k ⟨el,false,yF (qB l) off [fvv (.int ik v)]⟩ (qC h.l))) none)=_;rw[hsp,show Nat.beq w (qB l).length=true by rw[qP];exact hw,hll,show Nat.ble (off+1) xs.length=true from zPD hlt];rw[show qC (h.put k fun u=>.cells el u (spread ik (List.length xs) (xs.set off v))).l=xN k (SO.enc (.cells el h.next (spread ik (List.length xs) (xs.set off v)))) (qC h.l) from xU k _ _];show some (xN k ⟨el,false,yF (qB l) off [fvv (.int ik v)]⟩ (qC h.l))=some (xN k ⟨el,false,qB (spread ik (List.length xs) (xs.set off v))⟩ (qC h.l));rw[sU (by simp),hel]
      have:yF (xs.map fun x=>fvv (.int ik x)) off [fvv (.int ik v)]=(xs.set off v).map fun x=>fvv (.int ik x):=by
       rw[List.map_set,zQ7,if_pos (by rw[zO5];exact hlt)];unfold yF;simp
      rw[this]
     ·cases e
    ·cases e
   ·rename_i w' el ik xs hk;obtain⟨h',h1,h2,h3,h4⟩:=qUE (t:=t) ho hn hk e;exact⟨h',by simp only[SV.enc];exact h1,h2,h3,h4⟩
   ·cases e
  ·rename_i k g m w j off;split at e
   ·rename_i el gr g' w' t' xs hk;obtain⟨h1,h2⟩:=qE e;simp only[zOT] at h1;obtain⟨q1,q2,q3⟩:=h1;have hg:g=g':=zOU q1;have hw:w=t'.w:=zOU q2;have hn2:=zOU q3;subst hg hw hn2;obtain⟨y,hy,h3⟩:=run_bind h2;split at h3
    ·rename_i ik hik;split at h3
     ·rename_i ys v hys hv;obtain⟨zs,hzs,h4⟩:=run_bind h3;split at h4
      ·rename_i z hz;unfold qZX at hzs;split at hzs
       case isFalse=>cases hzs
       rename_i hlt;cases hzs;have hp:=vU (f:=fun v=>.list el gr g v t' (List.set xs j z)) ho hk ⟨_,rfl,by simp⟩;refine⟨_,?_,hp.1,hp.2,h4⟩;simp only[SV.ok] at ha;have hm:m=xs.length:=ha.2 _ _ _ _ _ hk;have hel:=wU hys
       have hcw:ys.length=t'.w:=by
        have:=congrArg List.length hel;rw[fP,zO5,zO5,t'.zFM] at this;exact this.symm
       have hle:off+1<=t'.w:=by omega
       simp only[SV.enc,jO,zI hk,hn];rw[qU,hm,pX hv,show spec P (SO.list el gr g w' t' xs).enc.el=false from kG (ho.list _ _ _ _ _ _ _ hk).2.1]
       have hjl:j*t'.w+off+1<=xs.length*t'.w:=by
        have:=qHI hy hle
        rwa [zR] at this
       rw[show Nat.ble (j*t'.w+off+1) (xs.length*t'.w)=true from zPD hjl];simp only[aM,cond_false];show some (xN k ⟨el,gr,yF ((xs.flatMap t'.cells).map .f) (j*t'.w+off) [fvv (.int ik v)]⟩ (qC h.l))=_;rw[show qC (h.put k fun v=>.list el gr g v t' (List.set xs j z)).l=xN k (SO.enc (.list el gr g h.next t' (List.set xs j z))) (qC h.l) from xU k _ _];show _=some (xN k ⟨el,gr,((List.set xs j z).flatMap t'.cells).map .f⟩ (qC h.l));rw[qFN hy (y:=z) hle ?_];rw[<-nW hz,sU (by simp),<-fP,hel,List.map_set,zQ7,if_pos (by rw[zO5];exact hlt)];unfold yF;simp
      ·cases h4
     ·cases h3
    ·cases h3
   ·cases e
  ·cases e
 ·cases e
end
end Go.Sv
namespace Go.Sv
open Go.Idl
noncomputable section
variable [Gc]
variable [Yl]
variable {P:Program}{h:SH}{R:Type}{r:R}
def tyL:List (Option Ty)->Option Ty
 | []=>some .unit
 | [t]=>t.map fun t=>.pair t .unit
 | [a,b]=>match a,b with
   | some a,some b=>some (.pair a b)
   | _,_=>none
 | a::l=>match a,tyL l with
   | some a,some b=>some (.pair a b)
   | _,_=>none
def zEI (P:Program)(t:TypeId):Option Ty:=match P.underlying t with
 | some (.slice el)=>(match P.underlying el with
   | some (.int k)=>some (.ol el k)
   | _=>none)
 | _=>none
def qC3 (P:Program):Nat->TypeId->Option Ty
 | 0,_=>none
 | n+1,t=>match P.underlying t with
   | some (.int k)=>some (.int k)
   | some .bool=>some .bool
   | some .string=>some .str
   | some (.slice el)=>(match qC3 P n el with
     | some u=>some (.list el u)
     | none=>none)
   | some (.struct fields)=>tyL (fields.toList.map fun f=>cond (Gc.ol f.type) (zEI P f.type) (qC3 P n f.type))
   | some (.array k el)=>tyL (List.replicate k (qC3 P n el))
   | some (.interface ..)=>some .nif
   | _=>none
def zcS (P:Program)(t:TypeId):Option (List SV):=match qBP P t with
 | some z=>cond (jG okC z.cells.toList) (some (kY .c z.cells.toList)) none
 | none=>none
theorem mR {t:TypeId}{l:List SV}(e:zcS P t=some l):zc P t=some (qB l)∧okL h l:=by
 unfold zcS at e;unfold zc;split at e
 ·rename_i z hz
  cases hc:jG okC z.cells.toList with
  | false=>rw[hc] at e;cases e
  | true =>
    rw[hc] at e;cases e;rw[hz];simp only[hc,cond_true];exact⟨by rw[zCL],zCM _⟩
 ·cases e
def zDK (P:Program)(el:TypeId)(l:List SV):Option (Nat×IntKind×List Int):=match qPO P el with
 | some (m,e2)=>(match qC3 P 8 e2 with
   | some (.int ik)=>(match qB2 ik l with
     | some xs=>cond (Nat.beq l.length m) (some (m,ik,xs)) none
     | none=>none)
   | _=>none)
 | none=>none
theorem qQK {el:TypeId}{l:List SV}{p:Nat×IntKind×List Int}(e:zDK P el l=some p):qB l=(p.2.2.map fun x=>fvv (.int p.2.1 x))∧l.length=p.1:=by
 unfold zDK at e;split at e
 ·split at e
  ·split at e
   ·rename_i xs hx;obtain⟨hc,e⟩:=yN e;cases e;exact⟨wU hx,zOU hc⟩
   ·cases e
  ·cases e
 ·cases e
def qZG (P:Program)(el:TypeId)(k:Nat)(h:SH)(K:SV->SH->zFC R):zFC R:=match zcS P el with
 | some l=>cond (spec P el) .fail (match zDK P el l with
   | some p=>K (.ref k 0 p.1) (h.new k fun v=>.spc v (.arr el p.2.1 p.2.2))
   | none=>K (.ref k 0 l.length) (h.new k fun v=>.cells el v l))
 | none=>.fail
theorem qYB {el:TypeId}{k:Nat}{K:SV->SH->zFC R}(ho:OkH P h)(e:(qZG P el k h K).run=some r):∃ v h',mH P el k (qC h.l)=some (v.enc,qC h'.l)∧Post P h h' v∧(K v h').run=some r:=by
 unfold qZG at e;split at e
 ·rename_i l hl;obtain⟨h1,h2⟩:=mR (h:=h) hl;have hp:=xG (k:=k) (f:=fun v=>.cells el v l) ho ⟨rfl,h2⟩
  cases hsp:spec P el with
  | true=>rw[hsp] at e;cases e
  | false =>
  rw[hsp] at e;simp only[cond_false] at e;split at e
  ·rename_i p hpa;have hp:=xG (k:=k) (f:=fun v=>.spc v (.arr el p.2.1 p.2.2)) ho rfl;refine⟨_,_,?_,⟨hp.1,hp.2,by simp[SV.ok]⟩,e⟩;simp only[mH,h1,qDN,SV.enc,qP,hsp,cond_false];rw[<- (qQK hpa).2,(qQK hpa).1];rfl
  ·refine⟨_,_,?_,⟨hp.1,hp.2,by simp[SV.ok]⟩,e⟩;simp only[mH,h1,qDN,SV.enc,qP,hsp,cond_false];rfl
 ·cases e
def zD7 (P:Program)(el:TypeId)(v:SV)(k:Nat)(h:SH)(K:SV->SH->zFC R):zFC R :=
 cond (!(spec P el)&&(pnt v.enc&&(qB (yJ v)).all aO)) (K (.ref k 0 (yJ v).length) (h.new k fun n=>.cells el n (yJ v))) .fail
theorem q73 {el:TypeId}{v:SV}{k:Nat}{K:SV->SH->zFC R}(ho:OkH P h)(hv:v.ok h)(e:(zD7 P el v k h K).run=some r):∃ x h',q02 P el v.enc k (qC h.l)=some (x.enc,qC h'.l)∧Post P h h' x∧(K x h').run=some r:=by
 obtain⟨h1,h2⟩:=qE e;have hp:=xG (k:=k) (f:=fun n=>.cells el n (yJ v)) ho ⟨rfl,qBR hv⟩;refine⟨_,_,?_,⟨hp.1,hp.2,by simp[SV.ok]⟩,h2⟩;unfold q02;rw[dW,h1];simp only[cond_true,qDN,SV.enc,qP];rfl
def qTB (place:Nat->Option (Nat×Nat)):List SV->List (Nat×SV)->Option (List SV)
 | cells,[]=>some cells
 | cells,(i,v)::rest=>match place i with
   | some (off,size)=>cond (Nat.beq (yJ v).length size&&(Nat.ble (off+size) cells.length&&(pnt v.enc&&(qB (yJ v)).all aO))) (qTB place (qC8 cells off (yJ v)) rest) none
   | none=>none
def q9I (l:List (Nat×SV)):List (Nat×PV):=l.map fun p=>(p.1,p.2.enc)
theorem oN {place:Nat->Option (Nat×Nat)}:∀ {l cs:List SV} {parts:List (Nat×SV)},qTB place l parts=some cs->qLB place (qB l) (q9I parts)=some (qB cs)∧(okL h l->(∀ p∈parts,p.2.ok h)->okL h cs)
 | l,cs,[],e=>by cases e;exact⟨rfl,fun a _=>a⟩
 | l,cs,(i,v)::rest,e=>by
   unfold qTB at e;split at e
   ·rename_i off size hpl
    cases hc:(Nat.beq (yJ v).length size&&(Nat.ble (off+size) l.length&&(pnt v.enc&&(qB (yJ v)).all aO))) with
    | false=>rw[hc] at e;cases e
    | true =>
      rw[hc] at e;obtain⟨h1,h2⟩:=oN (l:=qC8 l off (yJ v)) e;refine⟨?_,fun a b=>h2 (qQR a (qBR (b _ zO3))) fun p hp=>b p (zO0 _ hp)⟩
      show (match place i with
       | some (off,size)=>cond (Nat.beq (zC v.enc).length size&&(Nat.ble (off+size) (qB l).length&&(pnt v.enc&&(zC v.enc).all aO))) (qLB place (yF (qB l) off (zC v.enc)) (q9I rest)) none
       | none=>none)=some (qB cs)
      rw[hpl];simp only;rw[dW,qP,qP,hc,<-qCG];exact h1
   ·cases e
def qWA (P:Program)(t:TypeId)(parts:List (Nat×SV)):Option SV:=match zcS P t with
 | some z=>cond (qDE P t) (match qTB (qVI P t) z parts with
   | some cs=>some (.agg cs)
   | none=>none) none
 | none=>none
theorem qV2 {t:TypeId}{parts:List (Nat×SV)}{v:SV}(hp:∀ p∈parts,p.2.ok h)(e:qWA P t parts=some v):qLC P t (q9I parts)=some v.enc∧v.ok h:=by
 unfold qWA at e;split at e
 ·rename_i z hz;obtain⟨h1,h2⟩:=mR (h:=h) hz
  cases hb:qDE P t with
  | false=>rw[hb] at e;cases e
  | true =>
    rw[hb] at e;simp only[cond_true] at e;split at e
    ·rename_i cs hcs;cases e;obtain⟨h3,h4⟩:=oN (h:=h) hcs;simp only[qLC,h1,hb,cond_true,h3,SV.enc,SV.ok,true_and];exact h4 h2 hp
    ·cases e
 ·cases e
def Ty.zJX (t:Ty):Nat->List SV->Option (List t.sem)
 | 0,[]=>some []
 | 0,_::_=>none
 | n+1,l=>match t.zIG l with
   | some (x,l')=>(match t.zJX n l' with
     | some xs=>some (x::xs)
     | none=>none)
   | none=>none
theorem qPN {t:Ty}:∀ {n:Nat} {l:List SV} {xs:List t.sem},t.zJX n l=some xs->qB l=(xs.flatMap t.cells).map .f∧xs.length=n
 | 0,[],xs,e=>by cases e;simp[qB]
 | 0,_::_,xs,e=>by cases e
 | n+1,l,xs,e=>by
   unfold Ty.zJX at e;split at e
   ·rename_i x l' hx;split at e
    ·rename_i ys hy;cases e;obtain⟨h1,h2⟩:=qPN hy;rw[qAD hx,h1,zPO,zQD];exact⟨rfl,by rw[zPG,h2]⟩
    ·cases e
   ·cases e
def qS5 (n:Nat)(z:List SV):List SV:=(List.replicate n z).flatten
theorem qAT (n:Nat)(z:List SV):qB (qS5 n z)=qIH n (qB z):=by simp[qS5,qIH,zD,List.map_flatten]
def mW (P:Program)(t:TypeId)(len:Nat)(parts:List (Nat×SV))(k:Nat)(h:SH)(K:SV->SH->zFC R):zFC R:=match zN P t with
 | some el=>(match szT P el,zcS P el,qC3 P 8 el with
   | some (s+1),some z,some ty=>cond (Nat.beq ty.w (s+1)) (cond (Nat.beq z.length (s+1)&&Nat.ble (len*(s+1)) 65536) (match qTB (fun i=>some (i*(s+1),s+1)) (qS5 len z) parts with
     | some cs=>(match ty.zJX len cs with
       | some xs=>K (.own k h.next len) (h.new k fun v=>.list el false v v ty xs)
       | none=>K (.own k h.next len) (h.new k fun v=>.cells el v cs))
     | none=>.fail) .fail) .fail
   | some (s+1),some z,none=>cond (Nat.beq z.length (s+1)&&Nat.ble (len*(s+1)) 65536) (match qTB (fun i=>some (i*(s+1),s+1)) (qS5 len z) parts with
     | some cs=>K (.own k h.next len) (h.new k fun v=>.cells el v cs)
     | none=>.fail) .fail
   | _,_,_=>.fail)
 | none=>.fail
omit [Yl] in
theorem uG {el:TypeId}{gr:Bool}{k n:Nat}{ty:Ty}{xs:List ty.sem}(hn:n=xs.length):(SV.own k h.next n).ok (h.new k fun v=>.list el gr v v ty xs):=by
 simp only[SV.ok];refine⟨zPR _,fun el' gr' w' t' xs' hk=>?_⟩;rw[show slk k (h.new k fun v=>.list el gr v v ty xs).l=some (.list el gr h.next h.next ty xs) from jD] at hk;cases hk;exact hn
theorem qDZ {t:TypeId}{len k:Nat}{parts:List (Nat×SV)}{K:SV->SH->zFC R}(ho:OkH P h)(hp:∀ p∈parts,p.2.ok h)(e:(mW P t len parts k h K).run=some r) :
 ∃ v h',zZ P t len (q9I parts) k (qC h.l)=some (v.enc,qC h'.l)∧Post P h h' v∧(K v h').run=some r:=by
 unfold mW at e;split at e
 ·rename_i el hel;split at e
  ·rename_i s z ty hs hz hty;obtain⟨e1,e⟩:=qE e;obtain⟨e2,e⟩:=qE e;split at e
   ·rename_i cs hcs;split at e
    ·rename_i xs hxs;obtain⟨z1,z2⟩:=mR (h:=h) hz;obtain⟨f1,f2⟩:=oN (h:=h) hcs;obtain⟨d1,d2⟩:=qPN hxs;have hw:ty.w=s+1:=zOU e1;have hn:=xG (k:=k) (f:=fun v=>.list el false v v ty xs) ho ⟨rfl,rfl,by rw[hs,hw],by omega⟩;refine⟨_,_,?_,⟨hn.1,hn.2,uG d2.symm⟩,e⟩;rw[qAT] at f1;simp only[zZ,hel,hs,z1,qP,e2,cond_true,f1,qDN,SV.enc,d1];rfl
    ·obtain⟨z1,z2⟩:=mR (h:=h) hz;obtain⟨f1,f2⟩:=oN (h:=h) hcs
     have zI5:okL h cs:=f2 (zH.2 fun x hx=>by
      unfold qS5 at hx;obtain⟨l,hl,hx⟩:=zRW.1 hx;rw[zRH hl] at hx
      exact zH.1 z2 x hx) hp
     have hn:=xG (k:=k) (f:=fun v=>.cells el v cs) ho ⟨rfl,zI5⟩;refine⟨_,_,?_,⟨hn.1,hn.2,?_⟩,e⟩
     ·rw[qAT] at f1;simp only[zZ,hel,hs,z1,qP,e2,cond_true,f1,qDN,SV.enc];rfl
     ·simp only[SV.ok];refine⟨zPR _,fun el' gr' w' t' xs' hk=>?_⟩;rw[show slk k (h.new k fun v=>.cells el v cs).l=some (.cells el h.next cs) from jD] at hk;cases hk
   ·cases e
  ·rename_i s z hs hz hty;obtain⟨e2,e⟩:=qE e;split at e
   ·rename_i cs hcs;obtain⟨z1,z2⟩:=mR (h:=h) hz;obtain⟨f1,f2⟩:=oN (h:=h) hcs
    have zI5:okL h cs:=f2 (zH.2 fun x hx=>by
     unfold qS5 at hx;obtain⟨l,hl,hx⟩:=zRW.1 hx;rw[zRH hl] at hx
     exact zH.1 z2 x hx) hp
    have hn:=xG (k:=k) (f:=fun v=>.cells el v cs) ho ⟨rfl,zI5⟩;refine⟨_,_,?_,⟨hn.1,hn.2,?_⟩,e⟩
    ·rw[qAT] at f1;simp only[zZ,hel,hs,z1,qP,e2,cond_true,f1,qDN,SV.enc];rfl
    ·simp only[SV.ok];refine⟨zPR _,fun el' gr' w' t' xs' hk=>?_⟩;rw[show slk k (h.new k fun v=>.cells el v cs).l=some (.cells el h.next cs) from jD] at hk;cases hk
   ·cases e
  ·cases e
 ·cases e
def q8X (P:Program)(t:TypeId)(l:SV)(k:Nat)(h:SH)(K:SV->SH->zFC R):zFC R:=match zN P t,asI l with
 | some el,some (_,n)=>cond (zN P el).isSome (match szT P el,zcS P el with
   | some (s+1),some z=>cond (jA P el&&Nat.beq z.length (s+1)) (.bind (mkN n) fun N=>K (.own k h.next N) (h.new k fun v=>.cells el v (qS5 N z))) .fail
   | _,_=>.fail) (match szT P el,zcS P el,qC3 P 8 el with
   | some (s+1),some z,some ty=>cond (jA P el&&(Nat.beq z.length (s+1)&&Nat.beq ty.w (s+1))) (match ty.zH0 z with
     | some z0=>.bind (mkN n) fun N=>K (.own k h.next N) (h.new k fun v=>.list el false v v ty (List.replicate N z0))
     | none=>.fail) .fail
   | _,_,_=>.fail)
 | _,_=>.fail
omit [Yl] in
theorem qRQ {t:Ty}{z:t.sem}:∀ (n:Nat),((List.replicate n z).flatMap t.cells).map PV.f=qIH n ((t.cells z).map .f)
 | 0=>rfl
 | n+1=>by
   rw[zQO,zPO,zQD,qRQ n];simp[qIH,zQO]
theorem q0E {t:TypeId}{l:SV}{k:Nat}{K:SV->SH->zFC R}(ho:OkH P h)(e:(q8X P t l k h K).run=some r) :
 ∃ v h',xA P t l.enc l.enc k (qC h.l)=some (v.enc,qC h'.l)∧Post P h h' v∧(K v h').run=some r:=by
 unfold q8X at e;split at e
 ·rename_i el ki n hel hl
  cases hb:(zN P el).isSome with
  | true =>
    rw[hb] at e;simp only[cond_true] at e;split at e
    ·rename_i s z hs hz;obtain⟨e1,e⟩:=qE e;obtain⟨N,hN,e⟩:=run_bind e;obtain⟨z1,z2⟩:=mR (h:=h) hz
     have zI5:okL h (qS5 N z):=zH.2 fun x hx=>by
      unfold qS5 at hx;obtain⟨l,hl,hx⟩:=zRW.1 hx;rw[zRH hl] at hx;exact zH.1 z2 x hx
     have hn:=xG (k:=k) (f:=fun v=>.cells el v (qS5 N z)) ho ⟨rfl,zI5⟩;refine⟨_,_,?_,⟨hn.1,hn.2,?_⟩,e⟩
     ·rw[yC hl];simp only[xA,fvv,hel,decide_true,cond_true,hN,hs,z1,qP,e1,qDN,SV.enc];show some (PV.own k N 0 N,(k,(⟨el,false,qIH N (qB z)⟩:PO))::qC h.l)=some (PV.own k N 0 N,(k,⟨el,false,qB (qS5 N z)⟩)::qC h.l);rw[qAT]
     ·simp only[SV.ok];refine⟨zPR _,fun el' gr' w' t' xs' hk=>?_⟩;rw[show slk k (h.new k fun v=>.cells el v (qS5 N z)).l=some (.cells el h.next (qS5 N z)) from jD] at hk;cases hk
    ·cases e
  | false =>
  rw[hb] at e;simp only[cond_false] at e;split at e
  ·rename_i s z ty hs hz hty;obtain⟨e1,e⟩:=qE e;simp only[zOT] at e1;obtain⟨q1,q2,q3⟩:=e1;split at e
   ·rename_i z0 hz0;obtain⟨N,hN,e⟩:=run_bind e;obtain⟨z1,z2⟩:=mR (h:=h) hz;have hw:ty.w=s+1:=zOU q3;have hn:=xG (k:=k) (f:=fun v=>.list el false v v ty (List.replicate N z0)) ho ⟨rfl,rfl,by rw[hs,hw],by omega⟩;refine⟨_,_,?_,⟨hn.1,hn.2,uG (xs:=List.replicate N z0) (by simp)⟩,e⟩;rw[yC hl];simp only[xA,fvv,hel,decide_true,cond_true,hN,hs,z1,qP,q1,q2,zPQ,qDN,SV.enc];show some (PV.own k N 0 N,(k,(⟨el,false,qIH N (qB z)⟩:PO))::qC h.l)=some (PV.own k N 0 N,(k,⟨el,false,((List.replicate N z0).flatMap ty.cells).map PV.f⟩)::qC h.l);rw[qRQ,nW hz0]
   ·cases e
  ·cases e
 ·cases e
def qX2 (h:SH):SV->Bool
 | .ref k _ w=>match slk k h.l with
   | some (.cells _ _ l)=>Nat.beq w l.length
   | _=>false
 | .elt k g _ w _ _=>match slk k h.l with
   | some (.list _ _ g' _ t _)=>Nat.beq g g'&&Nat.beq w t.w
   | _=>false
 | .lp _ _ _ _=>true
 | _=>false
theorem qHL {k off w:Nat}(e:qX2 h (.ref k off w)=true):live? k w (qC h.l)=true:=by
 simp only[qX2] at e;split at e
 ·rename_i el w' l hk;unfold live?;rw[zI hk];show Nat.beq w (qB l).length=true;rw[qP];exact e
 ·cases e
theorem qGC {k g n w j off:Nat}(ho:(SV.elt k g n w j off).ok h)(e:qX2 h (.elt k g n w j off)=true):live? k (n*w) (qC h.l)=true:=by
 simp only[qX2] at e;split at e
 ·rename_i el gr g' w' t xs hk;rw[zOT] at e;have hg:g=g':=zOU e.1;have hw:w=t.w:=zOU e.2;subst hg hw;simp only[SV.ok] at ho;unfold live?;rw[zI hk];show Nat.beq (n*t.w) (SO.list el gr g w' t xs).enc.cs.length=true;rw[qU,ho.2 _ _ _ _ _ hk];exact aM _
 ·cases e
def q76 (h:SH)(x:SV)(T:zFC R):zFC R:=match x with
 | .ref k _ w=>(match slk k h.l with
   | some (.spc _ (.arr _ _ xs))=>.ite (Nat.beq w (List.length xs)) T .fail
   | some (.cells _ _ l)=>cond (Nat.beq w l.length) T .fail
   | _=>.fail)
 | x=>cond (qX2 h x) T .fail
theorem q3J {x:SV}{T:zFC R}(e:(q76 h x T).run=some r):T.run=some r∧(∀ k o w,x=.ref k o w->live? k w (qC h.l)=true)∧(∀ k g n w j o,x=.elt k g n w j o->qX2 h x=true):=by
 unfold q76 at e;split at e
 ·rename_i k o w;split at e
  ·rename_i w' el ik xs hk
   rcases run_ite e with ⟨z,e1⟩ | ⟨_,e1⟩
   ·refine⟨e1,fun k' o' w2 h=>?_,fun _ _ _ _ _ _ h=>by cases h⟩;cases h;unfold live?;rw[zI hk];show Nat.beq w (xs.map fun x=>fvv (.int ik x)).length=true;rw[zO5];exact z
   ·cases e1
  ·rename_i el w' l hk;obtain⟨z,e1⟩:=qE e;refine⟨e1,fun k' o' w2 h=>?_,fun _ _ _ _ _ _ h=>by cases h⟩;cases h;exact qHL (off:=o) (by simp only[qX2,hk];exact z)
  ·cases e
 ·rename_i hne;obtain⟨z,e1⟩:=qE e;exact⟨e1,fun k o w h=>absurd h (hne k o w),fun _ _ _ _ _ _ _=>z⟩
def qNY (n:Nat):SV->SV
 | .ref k off w=>.ref k (off+n) w
 | .elt k g m w j off=>.elt k g m w j (off+n)
 | .lp t xs j off=>.lp t xs j (off+n)
 | v=>v
def zEH:SV->Bool
 | .ref _ _ _=>true
 | .elt _ _ _ _ _ _=>true
 | .lp _ _ _ _=>true
 | _=>false
omit [Yl] in
theorem qZM {n:Nat}{v:SV}(hv:v.ok h):(qNY n v).ok h:=by
 cases v <;> simp only[qNY,SV.ok] at hv ⊢ <;> exact hv
def rG (P:Program)(t:TypeId)(x:SV)(i:Nat)(h:SH):Option SV:=match zB1 P t i with
 | some (off,ft)=>(match szT P ft with
   | some (_+1)=>cond (qX2 h x) (some (qNY off x)) none
   | _=>none)
 | none=>none
theorem qGI {t:TypeId}{x v:SV}{i:Nat}(hx:x.ok h)(e:rG P t x i h=some v):zX P t x.enc i (qC h.l)=some v.enc∧v.ok h:=by
 unfold rG at e;unfold zX;split at e
 ·rename_i off ft hf;split at e
  ·rename_i s hs
   cases hl:qX2 h x with
   | false=>rw[hl] at e;cases e
   | true =>
     rw[hl] at e;cases e;refine⟨?_,qZM hx⟩;simp only[hf,hs]
     cases x with
     | ref k o w=>simp only[SV.enc,qNY,qHL hl,cond_true]
     | elt k g n w j o=>simp only[SV.enc,qNY,qGC hx hl,cond_true,zQU]
     | lp t xs j o=>simp only[SV.enc,qNY,zQU]
     | _=>cases hl
  ·cases e
 ·cases e
def zDR (n:Nat)(ix:SV)(K:Nat->zFC R):zFC R:=match ix with
 | .c (.int _ i)=>(match idx n i with
   | some j=>K j
   | none=>.fail)
 | v=>(match asI v with
   | some (_,i)=>.bind (idx n i) K
   | none=>.fail)
theorem q59 {n:Nat}{ix:SV}{K:Nat->zFC R}(e:(zDR n ix K).run=some r):∃ k i j,ix.enc=fvv (.int k i)∧idx n i=some j∧(K j).run=some r:=by
 unfold zDR at e;split at e
 ·rename_i k i;split at e
  ·rename_i j hj;exact⟨k,i,j,by simp[SV.enc],hj,e⟩
  ·cases e
 ·split at e
  ·rename_i k i hi;obtain⟨j,hj,e⟩:=run_bind e;exact⟨k,i,j,yC hi,hj,e⟩
  ·cases e
def q7Q (n:Nat)(ix:SV)(K K2:Nat->zFC R):zFC R:=match ix with
 | .c (.int _ i)=>(match idx n i with
   | some j=>K j
   | none=>.fail)
 | v=>(match asI v with
   | some (_,i)=>.bind (idx n i) K2
   | none=>.fail)
theorem q3G {n:Nat}{ix:SV}{K K2:Nat->zFC R}(e:(q7Q n ix K K2).run=some r):∃ k i j,ix.enc=fvv (.int k i)∧idx n i=some j∧((K j).run=some r∨(K2 j).run=some r):=by
 unfold q7Q at e;split at e
 ·rename_i k i;split at e
  ·rename_i j hj;exact⟨k,i,j,by simp[SV.enc],hj,.inl e⟩
  ·cases e
 ·split at e
  ·rename_i k i hi;obtain⟨j,hj,e⟩:=run_bind e;exact⟨k,i,j,yC hi,hj,.inr e⟩
  ·cases e
def zA1 (n:Nat):SV->SV
 | .ref k off w=>.rfx k (off+n) w
 | .elt k g m w j off=>.etx k g m w j (off+n)
 | v=>qNY n v
omit [Yl] in
theorem q6T {n:Nat}{v:SV}(hv:v.ok h):(zA1 n v).ok h:=by
 cases v <;> simp only[zA1,qNY,SV.ok] at hv ⊢ <;> exact hv
theorem q2U {n:Nat}{v:SV}(hv:zEH v=true):(zA1 n v).enc=(qNY n v).enc:=by
 cases v <;> first | rfl | (simp only[zA1,qNY,SV.enc])
def rZ (P:Program)(t:TypeId)(x ix:SV)(h:SH)(K:SV->zFC R):zFC R:=match x with
 | .d (.list el u) xs=>(match asI ix,zN P t with
   | some (_,i),some el'=>(match szT P el' with
     | some s=>cond (Nat.beq s u.w) (.bind (idx (List.length xs) i) fun j=>K (.lp u xs j 0)) .fail
     | none=>.fail)
   | _,_=>.fail)
 | .own k g n=>(match asI ix,zN P t,slk k h.l with
   | some (_,i),some el',some (.list el _ g' _ u _)=>cond (Nat.beq el' el&&Nat.beq g g') (.bind (idx n i) fun j=>K (.elt k g n u.w j 0)) .fail
   | some (_,i),some el',some (.cells el _ cs)=>(match szT P el with
     | some s=>cond (Nat.beq el' el&&Nat.beq (n*s) cs.length) (.bind (idx n i) fun j=>K (.ref k (j*s) cs.length)) .fail
     | none=>.fail)
   | _,_,_=>.fail)
 | .sl k g n o m=>(match asI ix,zN P t,slk k h.l with
   | some (_,i),some el',some (.list el _ g' _ u _)=>cond (Nat.beq el' el&&Nat.beq g g') (.bind (idx m i) fun j=>K (.elt k g n u.w (o+j) 0)) .fail
   | _,_,_=>.fail)
 | x=>(match qPO P t with
   | some (n,el)=>(match szT P el with
     | some s=>cond (zEH x) (q76 h x (q7Q n ix (fun j=>K (qNY (j*s) x)) fun j=>K (zA1 (j*s) x))) .fail
     | none=>.fail)
   | none=>.fail)
theorem qHA {t:TypeId}{x ix:SV}{K:SV->zFC R}(ho:OkH P h)(hx:x.ok h)(e:(rZ P t x ix h K).run=some r):∃ v,zA P t x.enc ix.enc (qC h.l)=some v.enc∧v.ok h∧(K v).run=some r:=by
 unfold rZ at e;split at e
 ·rename_i el u xs;split at e
  ·rename_i k i el' hi hel;split at e
   ·rename_i s hs;obtain⟨h1,e1⟩:=qE e;obtain⟨j,hj,e2⟩:=run_bind e1;have hw:s=u.w:=zOU h1;subst hw;refine⟨_,?_,by simp[SV.ok],e2⟩;rw[yC hi];simp only[SV.enc,Ty.fv,fvv,zA,hel,hs,hj,zRG]
   ·cases e
  ·cases e
 ·rename_i k g n;split at e
  ·rename_i ki i el' el gr g' w u xs hi hel hk;obtain⟨h1,e1⟩:=qE e;obtain⟨j,hj,e2⟩:=run_bind e1;rw[zOT] at h1;have hg:g=g':=zOU h1.2;subst hg;simp only[SV.ok] at hx;have hn:=hx.2 _ _ _ _ _ hk;have hl:=ho.list _ _ _ _ _ _ _ hk;refine⟨_,?_,by simp only[SV.ok];exact hx,e2⟩;rw[yC hi];simp only[SV.enc,fvv,zA,hel,zI hk]
   show (match szT P el with
    | some s=>(match idx n i with
      | some j=>cond (Nat.beq el' el&&Nat.beq (n*s) (SO.list el gr g w u xs).enc.cs.length) (some (PV.ref k (SO.list el gr g w u xs).enc.cs.length ((0+j)*s))) none
      | none=>none)
    | none=>none)=_
   rw[hl.2.1,hj];simp only[qU,hn,aM,h1.1,zPQ,cond_true,zPH,zRG]
  ·rename_i ki i el' el w cs hi hel hk;split at e
   ·rename_i s hs;obtain⟨h1,e1⟩:=qE e;obtain⟨j,hj,e2⟩:=run_bind e1;refine⟨_,?_,by simp[SV.ok],e2⟩;rw[yC hi];simp only[SV.enc,fvv,zA,hel,zI hk]
    show (match szT P el with
     | some s=>(match idx n i with
       | some j=>cond (Nat.beq el' el&&Nat.beq (n*s) (qB cs).length) (some (PV.ref k (qB cs).length ((0+j)*s))) none
       | none=>none)
     | none=>none)=_
    rw[hs,hj];simp only[qP,h1,cond_true,zPH]
   ·cases e
  ·cases e
 ·rename_i k g n o m;split at e
  ·rename_i ki i el' el gr g' w u xs hi hel hk;obtain⟨h1,e1⟩:=qE e;obtain⟨j,hj,e2⟩:=run_bind e1;rw[zOT] at h1;have hg:g=g':=zOU h1.2;subst hg;simp only[SV.ok] at hx;have hn:=hx.1.2 _ _ _ _ _ hk;have hl:=ho.list _ _ _ _ _ _ _ hk;refine⟨_,?_,by simp only[SV.ok];exact hx.1,e2⟩;rw[yC hi];simp only[SV.enc,fvv,zA,hel,zI hk]
   show (match szT P el with
    | some s=>(match idx m i with
      | some j=>cond (Nat.beq el' el&&Nat.beq (n*s) (SO.list el gr g w u xs).enc.cs.length) (some (PV.ref k (SO.list el gr g w u xs).enc.cs.length ((o+j)*s))) none
      | none=>none)
    | none=>none)=_
   rw[hl.2.1];simp only[hj,qU,hn,aM,h1.1,zPQ,cond_true,zRG]
  ·cases e
 ·split at e
  ·rename_i n el ha;split at e
   ·rename_i s hs;obtain⟨h1,e⟩:=qE e;obtain⟨e,h2,h3⟩:=q3J e;obtain⟨ki,i,j,hi,hj,e⟩:=q3G e
    obtain⟨v,hv1,hv2,e⟩:∃ v:SV,v.enc=(qNY (j*s) x).enc∧v.ok h∧(K v).run=some r:=by
     rcases e with e | e
     ·exact⟨_,rfl,qZM hx,e⟩
     ·exact⟨_,q2U h1,q6T hx,e⟩
    refine⟨_,?_,hv2,e⟩;rw[hi,hv1]
    cases x with
    | ref k o w=>simp only[SV.enc,qNY,fvv,zA,ha,hs,hj,h2 _ _ _ rfl,cond_true]
    | elt k g n w j o=>simp only[SV.enc,qNY,fvv,zA,ha,hs,hj,qGC hx (h3 _ _ _ _ _ _ rfl),cond_true,zQU]
    | lp t xs j o=>simp only[SV.enc,qNY,fvv,zA,ha,hs,hj,zQU]
    | _=>cases h1
   ·cases e
  ·cases e
def qWE (P:Program)(t:TypeId)(x ix:SV)(K:SV->zFC R):zFC R:=match qPO P t,x with
 | some (n,el),.agg l=>(match szT P el with
   | some s=>zDR n ix fun j=>match qF4 P el l (j*s) with
     | some v=>K v
     | none=>.fail
   | none=>.fail)
 | _,_=>.fail
theorem qUT {t:TypeId}{x ix:SV}{K:SV->zFC R}(hx:x.ok h)(e:(qWE P t x ix K).run=some r):∃ v,qEM P t x.enc ix.enc=some v.enc∧v.ok h∧(K v).run=some r∧∃ l,x=.agg l:=by
 unfold qWE at e;split at e
 ·rename_i n el l ha;split at e
  ·rename_i s hs;obtain⟨ki,i,j,hi,hj,e⟩:=q59 e;split at e
   ·rename_i v hv;obtain⟨h1,h2⟩:=qGG (h:=h) hv;simp only[SV.ok] at hx;refine⟨v,?_,h2 hx,e,l,rfl⟩;rw[hi];simp only[qEM,ha,SV.enc,fvv,hs,hj];exact h1
   ·cases e
  ·cases e
 ·cases e
def qGD (v:SV)(i:Nat):Option SV:=match v with
 | .tup l=>(match zG l i with
   | some x=>cond (pnt x.enc) (some x) none
   | none=>none)
 | _=>none
theorem qN8 {x v:SV}{i:Nat}(hx:x.ok h)(e:qGD x i=some v):dY x.enc i=some v.enc∧v.ok h:=by
 unfold qGD at e;split at e
 ·rename_i l;split at e
  ·rename_i y hy
   cases hp:pnt y.enc with
   | false=>rw[hp] at e;cases e
   | true =>
     rw[hp] at e;cases e;simp only[SV.ok] at hx;refine⟨?_,mU hx hy⟩;simp only[dY,SV.enc,qW,hy,zO7,hp,cond_true]
  ·cases e
 ·cases e
def qBT (fn:Fn)(first cap:List SV):Option SV:=match fn with
 | .func g=>some (match first,cap with
   | [],[]=>.c (.func (.func g) #[] #[])
   | _,_=>.fn g first cap)
 | _=>none
theorem qJ1 {fn:Fn}{first cap:List SV}{v:SV}(h1:okL h first)(h2:okL h cap)(e:qBT fn first cap=some v):vL fn (qB first) (qB cap)=some v.enc∧v.ok h:=by
 unfold qBT at e;split at e
 ·rename_i g;cases e
  cases first with
  | nil=>cases cap with
    | nil=>exact⟨by simp[vL,qB,SV.enc],by simp[SV.ok]⟩
    | cons x l=>exact⟨by simp[vL,qB,SV.enc],by simp only[SV.ok];exact⟨h1,h2⟩⟩
  | cons y l=>exact⟨by simp[vL,qB,SV.enc],by simp only[SV.ok];exact⟨h1,h2⟩⟩
 ·cases e
def qBK (v:SV)(h:SH):Option SV:=match v with
 | .fn _ _ _=>some v
 | .c (.func (.func _) _ _)=>some v
 | v=>cond (qX2 h v) (some v) none
theorem qI6 {x v:SV}(hx:x.ok h)(e:qBK x h=some v):yM x.enc (qC h.l)=some v.enc∧v.ok h:=by
 unfold qBK at e;split at e
 ·cases e;exact⟨by simp[yM,SV.enc],hx⟩
 ·cases e;exact⟨by simp[yM,SV.enc,fvv],hx⟩
 ·cases hl:qX2 h x with
  | false=>rw[hl] at e;cases e
  | true =>
    rw[hl] at e;cases e;refine⟨?_,hx⟩
    cases x with
    | ref k o w=>simp only[SV.enc,yM,qHL hl,cond_true]
    | elt k g n w j o=>simp only[SV.enc,yM,qGC hx hl,cond_true]
    | lp t xs j o=>simp only[SV.enc,yM]
    | _=>cases hl
end
end Go.Sv
namespace Go.Sv
open Go.Idl
variable {el:TypeId}{k:Nat}{t:Ty}{x:SV}
noncomputable section
variable [Gc]
variable [Yl]
variable {P:Program}{h:SH}{R:Type}{r:R}
def zD0 (P:Program)(ts:Array TypeId)(x:SV)(h:SH):Option SV:=match ts[0]? with
 | some t=>(match zN P t with
   | some _=>(match x with
     | .d (.list _ _) xs=>some (.d (.int .i64) ((List.length xs:Nat):Int))
     | .c (.slice _ n _)=>some (.c (.int .i64 (n:Int)))
     | .own k g n=>(match slk k h.l with
       | some (.list _ _ g' _ _ _)=>cond (Nat.beq g g') (some (.d (.int .i64) (n:Int))) none
       | some (.cells el _ cs)=>(match szT P el with
         | some s=>cond (Nat.beq (n*s) cs.length) (some (.c (.int .i64 (n:Int)))) none
         | none=>none)
       | _=>none)
     | .sl k g _ _ m=>(match slk k h.l with
       | some (.list _ _ g' _ _ _)=>cond (Nat.beq g g') (some (.d (.int .i64) (m:Int))) none
       | _=>none)
     | _=>none)
   | none=>(match qPO P t with
     | some (n,_)=>some (.c (.int .i64 (n:Int)))
     | none=>none))
 | none=>none
theorem q5X {ts:Array TypeId}{v:SV}(ho:OkH P h)(hx:x.ok h)(e:zD0 P ts x h=some v):q0B P ts x.enc (qC h.l)=some v.enc∧v.ok h:=by
 unfold zD0 at e;unfold q0B;split at e
 ·rename_i t ht;split at e
  ·rename_i el hel;split at e
   ·rename_i el' u xs;cases e;simp[ht,hel,SV.enc,Ty.fv,fvv,SV.ok]
   ·rename_i a n c;cases e;simp[ht,hel,SV.enc,fvv,SV.ok]
   ·rename_i k g n;split at e
    ·rename_i el' gr g' w u xs hk
     obtain⟨h1,e1⟩:Nat.beq g g'=true∧some (SV.d (.int .i64) (n:Int))=some v:=by
      cases hb:Nat.beq g g' with
      | false=>rw[hb] at e;cases e
      | true=>rw[hb] at e;exact⟨rfl,e⟩
     cases e1;have hg:g=g':=zOU h1;subst hg;simp only[SV.ok] at hx;have hn:=hx.2 _ _ _ _ _ hk;have hl:=ho.list _ _ _ _ _ _ _ hk;refine⟨?_,by simp[SV.ok]⟩;simp only[ht,hel,SV.enc,zI hk]
     show (match szT P el' with
      | some s=>cond (Nat.beq (n*s) (SO.list el' gr g w u xs).enc.cs.length) (some (fvv (.int .i64 (n:Int)))) none
      | none=>none)=_
     rw[hl.2.1];simp only[qU,hn,aM,cond_true,Ty.fv,fvv]
    ·rename_i el' w cs hk;split at e
     ·rename_i s hs
      cases hb:Nat.beq (n*s) cs.length with
      | false=>rw[hb] at e;cases e
      | true =>
        rw[hb] at e;cases e;refine⟨?_,by simp[SV.ok]⟩;simp only[ht,hel,SV.enc,zI hk]
        show (match szT P el' with
         | some s=>cond (Nat.beq (n*s) (qB cs).length) (some (fvv (.int .i64 (n:Int)))) none
         | none=>none)=_
        rw[hs];simp only[qP,hb,cond_true]
     ·cases e
    ·cases e
   ·rename_i k g n o m;split at e
    ·rename_i el' gr g' w u xs hk
     obtain⟨h1,e1⟩:Nat.beq g g'=true∧some (SV.d (.int .i64) (m:Int))=some v:=by
      cases hb:Nat.beq g g' with
      | false=>rw[hb] at e;cases e
      | true=>rw[hb] at e;exact⟨rfl,e⟩
     cases e1;have hg:g=g':=zOU h1;subst hg;simp only[SV.ok] at hx;have hn:=hx.1.2 _ _ _ _ _ hk;have hl:=ho.list _ _ _ _ _ _ _ hk;refine⟨?_,by simp[SV.ok]⟩;simp only[ht,hel,SV.enc,zI hk]
     show (match szT P el' with
      | some s=>cond (Nat.beq (n*s) (SO.list el' gr g w u xs).enc.cs.length) (some (fvv (.int .i64 (m:Int)))) none
      | none=>none)=_
     rw[hl.2.1];simp only[qU,hn,aM,cond_true,Ty.fv,fvv]
    ·cases e
   ·cases e
  ·rename_i hel;split at e
   ·rename_i n el ha;cases e;simp[ht,hel,ha,SV.enc,SV.ok]
   ·cases e
 ·cases e
def qDT (u t:Ty)(xs:List u.sem):Option (List t.sem):=if e:u=t then some (e ▸ xs) else none
omit [Yl] in
theorem uI {u:Ty}{xs:List u.sem}{ys:List t.sem}(e:qDT u t xs=some ys):(⟨u,xs⟩:(t:Ty)×List t.sem)=⟨t,ys⟩:=by
 unfold qDT at e;split at e
 ·rename_i h;subst h;cases e;rfl
 ·cases e
def qVC (t:Ty)(x:SV)(h:SH):Option (List t.sem):=match x with
 | .d (.list _ u) xs=>qDT u t xs
 | .c (.slice none 0 _)=>some []
 | .own k g _=>(match slk k h.l with
   | some (.list _ _ g' _ u xs)=>cond (Nat.beq g g') (qDT u t xs) none
   | _=>none)
 | .sl k g _ o m=>(match slk k h.l with
   | some (.list _ _ g' _ u xs)=>cond (Nat.beq g g') (match qDT u t xs with
     | some xs=>some ((xs.drop o).take m)
     | none=>none) none
   | _=>none)
 | _=>none
theorem qHM {ys:List t.sem}(ho:OkH P h)(hx:x.ok h)(e:qVC t x h=some ys):nI P t.w x.enc (qC h.l)=some (ys.length,(ys.flatMap t.cells).map .f):=by
 unfold qVC at e;unfold nI;split at e
 ·rename_i el u xs;cases uI e;simp only[SV.enc,Ty.fv,zR,aM,cond_true]
 ·cases e;simp[SV.enc,fvv]
 ·rename_i k g n;split at e
  ·rename_i el gr g' w u xs hk
   cases hb:Nat.beq g g' with
   | false=>rw[hb] at e;cases e
   | true =>
     rw[hb] at e;have hg:g=g':=zOU hb;subst hg;cases uI e;simp only[SV.ok] at hx;have hn:=hx.2 _ _ _ _ _ hk;have hl:=ho.list _ _ _ _ _ _ _ hk;simp only[SV.enc,zI hk]
     show (match szT P el with
      | some s'=>cond (Nat.beq (n*s') (SO.list el gr g w t ys).enc.cs.length&&Nat.beq t.w s') (some (n,(((ys.flatMap t.cells).map PV.f).drop (0*t.w)).take (n*t.w))) none
      | none=>none)=_
     rw[hl.2.1];simp only[qU,hn,aM,zPQ,cond_true,zSL,zQH];rw[zPI (by rw[zO5,zR];exact zOV _)]
  ·cases e
 ·rename_i k g n o m;split at e
  ·rename_i el gr g' w u xs hk
   cases hb:Nat.beq g g' with
   | false=>rw[hb] at e;cases e
   | true =>
     rw[hb] at e;have hg:g=g':=zOU hb;subst hg;simp only[cond_true] at e;split at e
     case h_2=>cases e
     rename_i xs2 zM5;cases e;cases uI zM5;simp only[SV.ok] at hx;have hn:=hx.1.2 _ _ _ _ _ hk;have hl:=ho.list _ _ _ _ _ _ _ hk;simp only[SV.enc,zI hk]
     show (match szT P el with
      | some s'=>cond (Nat.beq (n*s') (SO.list el gr g w t xs2).enc.cs.length&&Nat.beq t.w s') (some (m,(((xs2.flatMap t.cells).map PV.f).drop (o*t.w)).take (m*t.w))) none
      | none=>none)=_
     rw[hl.2.1];simp only[qU,hn,aM,zPQ,cond_true];rw[<-zQ9,<-zQ3,gK,gN]
     congr 1
     have:=hx.2;rw[zQE,zRK,zQN (by omega)]
  ·cases e
 ·cases e
omit [Yl] in
theorem qCP (ys:List t.sem):((ys.flatMap t.cells).map PV.f).all aO=true:=by
 rw[zOW];intro x hx;obtain⟨y,_,rfl⟩:=zPL.1 hx;rfl
omit [Yl] in
theorem qHZ {h0:SH}{gr:Bool}{n m:Nat}{ty:Ty}{xs ys:List ty.sem}(hn:n=xs.length)(hm:m=ys.length):(SV.own k h0.next (n+m)).ok (h0.new k fun v=>.list el gr v v ty (xs++ys)) :=
 uG (by rw[zPC,hn,hm])
def qHK (P:Program)(ts:List TypeId)(base x:SV)(k:Nat)(h:SH)(K:SV->SH->zFC R):zFC R:=match ts with
 | [st,xt]=>(match zN P st,zN P xt with
   | some el,some _=>(match szT P el,qC3 P 8 el with
     | some (s+1),some t=>cond (Nat.beq t.w (s+1)&&jA P el) (match qVC t x h with
       | some ys=>(match base with
         | .c (.slice none 0 0)=>.ite (Nat.beq ys.length 0) (K base h)
            (.ite (Nat.ble (0+ys.length) 1048576) (K (.own k h.next (0+ys.length)) (h.new k fun v=>.list el true v v t ([]++ys))) .fail)
         | .own j g n=>(match slk j h.l with
           | some (.list el' gr g' _ u xs)=>cond (Nat.beq el' el&&Nat.beq g g') (match qDT u t xs with
             | some xs=>.ite (Nat.beq ys.length 0) (K base h)
                (.ite (Nat.ble (n+ys.length) 1048576) (cond gr (K (.own j h.next (n+ys.length)) ((h.del j).new j fun v=>.list el true v v t (xs++ys))) (K (.own k h.next (n+ys.length)) (h.new k fun v=>.list el true v v t (xs++ys)))) .fail)
             | none=>.fail) .fail
           | _=>.fail)
         | _=>.fail)
       | none=>.fail) .fail
     | _,_=>.fail)
   | _,_=>.fail)
 | _=>.fail
omit [Yl] in
theorem qHG {xs ys:List t.sem}{ph:PHp}(h1:Nat.ble (xs.length+ys.length) 1048576=true)(h2:jA P el=true) :
 pO P el t.w ((xs.flatMap t.cells).map .f) xs.length ((ys.flatMap t.cells).map .f) ys.length k ph=some (.own k (xs.length+ys.length) 0 (xs.length+ys.length),(k,⟨el,true,((xs++ys).flatMap t.cells).map .f⟩)::ph):=by
 unfold pO;rw[h1,h2,zO5,zR,zO5,zR,qCP];simp only[aM,zPQ,cond_true,qDN];rw[zR0,zQD]
theorem qFD {ts:List TypeId}{base:SV}{K:SV->SH->zFC R}(ho:OkH P h)(hb:base.ok h)(hx:x.ok h)(e:(qHK P ts base x k h K).run=some r) :
 ∃ v h',zT P ts base.enc x.enc k (qC h.l)=some (v.enc,qC h'.l)∧Post P h h' v∧(K v h').run=some r:=by
 unfold qHK at e;split at e
 ·rename_i st xt;split at e
  ·rename_i el el2 hel zHD;split at e
   ·rename_i s t hs hty;have e_:=qE e;clear e;obtain⟨c1,e⟩:=e_;rw[zOT] at c1;have hw:s+1=t.w:=(zOU c1.1).symm;split at e
    ·rename_i ys hys;have hnw:=qHM ho hx hys;split at e
     ·have e_:=run_ite e;clear e
      rcases e_ with ⟨z,e⟩ | ⟨z,e⟩
      ·refine⟨_,_,?_,⟨.refl _,ho,hb⟩,e⟩;simp only[zT,hel,zHD,hs,SV.enc,fvv];rw[hw,hnw];simp only[z,cond_true]
      ·have e_:=run_ite e;clear e
       rcases e_ with ⟨z2,e⟩ | ⟨z2,e⟩
       ·have hn:=xG (k:=k) (f:=fun v=>.list el true v v t ([]++ys)) ho ⟨rfl,rfl,by rw[hs];exact congrArg some hw,by omega⟩;refine⟨_,_,?_,⟨hn.1,hn.2,qHZ (xs:=[]) rfl rfl⟩,e⟩;simp only[zT,hel,zHD,hs,SV.enc,fvv];rw[hw,hnw];simp only[z,cond_false];exact qHG (xs:=[]) z2 c1.2
       ·cases e
     ·rename_i j g n;split at e
      ·rename_i el' gr g' w u xs0 hk;have e_:=qE e;clear e;obtain⟨c2,e⟩:=e_;rw[zOT] at c2;have he:el'=el:=zOU c2.1;have hg:g=g':=zOU c2.2;split at e
       ·rename_i xs hxs;have hcast:=uI hxs
        have hk2:slk j h.l=some (.list el gr g w t xs):=by
         rw[hk,he,<-hg];cases hcast;rfl
        have hnl:n=xs.length:=by
         simp only[SV.ok] at hb;exact hb.2 _ _ _ _ _ hk2
        have pre:∀ z:PV×PHp,(cond (Nat.beq ys.length 0) (some (PV.own j n 0 n,qC h.l))
         (cond (Nat.ble (n+ys.length) n) (cond (Nat.beq ((ys.flatMap t.cells).map PV.f).length (ys.length*(s+1))&&((ys.flatMap t.cells).map PV.f).all aO) (some (PV.own j n 0 (n+ys.length),xN j { (SO.list el gr g w t xs).enc with cs:=yF (SO.list el gr g w t xs).enc.cs (n*(s+1)) ((ys.flatMap t.cells).map PV.f) } (qC h.l))) none)
           (cond gr (pO P el (s+1) (SO.list el gr g w t xs).enc.cs n ((ys.flatMap t.cells).map PV.f) ys.length j (oK j (qC h.l))) (pO P el (s+1) (SO.list el gr g w t xs).enc.cs n ((ys.flatMap t.cells).map PV.f) ys.length k (qC h.l)))))=some z ->
         zT P [st,xt] (SV.own j g n).enc x.enc k (qC h.l)=some z:=fun z hz=>by
         simp only[zT,hel,zHD,hs,SV.enc];rw[show nI P (s+1) x.enc (qC h.l)=_ from (hw ▸ hnw)];simp only[zI hk2];rw[show (SO.list el gr g w t xs).enc.el=el from rfl,show Nat.beq (n*(s+1)) (SO.list el gr g w t xs).enc.cs.length=true by rw[qU,hw,hnl];exact aM _];simp only[aM,zPQ,cond_true];exact hz
        have e_:=run_ite e;clear e
        rcases e_ with ⟨z,e⟩ | ⟨z,e⟩
        ·refine⟨_,_,pre _ ?_,⟨.refl _,ho,hb⟩,e⟩;rw[z];simp[SV.enc]
        ·have e_:=run_ite e;clear e
         rcases e_ with ⟨z2,e⟩ | ⟨z2,e⟩
         ·have hpos:Nat.ble (n+ys.length) n=false:=by
           cases hq:Nat.ble (n+ys.length) n with
           | false=>rfl
           | true =>
             have h0:=zO2 hq;have:ys.length=0:=by omega
             rw[this] at z;cases z
          cases hgr:gr with
          | true =>
            rw[hgr] at e;have hd:=gW (k:=j) ho;have hn:=xG (h:=h.del j) (k:=j) (f:=fun v=>.list el true v v t (xs++ys)) hd.2 ⟨rfl,rfl,by rw[hs];exact congrArg some hw,by omega⟩;refine⟨_,_,pre _ ?_,⟨hd.1.trans hn.1,hn.2,qHZ (h0:=h.del j) hnl rfl⟩,e⟩;rw[z,hpos,hgr];simp only[cond_true,cond_false];rw[hw,hnl];rw[hnl] at z2;rw[show (SO.list el true g w t xs).enc.cs=(xs.flatMap t.cells).map .f from rfl,qHG z2 c1.2,<-fA];rfl
          | false =>
            rw[hgr] at e;have hn:=xG (h:=h) (k:=k) (f:=fun v=>.list el true v v t (xs++ys)) ho ⟨rfl,rfl,by rw[hs];exact congrArg some hw,by omega⟩;refine⟨_,_,pre _ ?_,⟨hn.1,hn.2,qHZ (h0:=h) hnl rfl⟩,e⟩;rw[z,hpos,hgr];simp only[cond_false];rw[hw,hnl];rw[hnl] at z2;rw[show (SO.list el false g w t xs).enc.cs=(xs.flatMap t.cells).map .f from rfl,qHG z2 c1.2];rfl
         ·cases e
       ·cases e
      ·cases e
     ·cases e
    ·cases e
   ·cases e
  ·cases e
 ·cases e
end
end Go.Sv
namespace Go.Sv
open Go.Idl
variable {base x:SV}{c o:Nat}{ts:List TypeId}
noncomputable section
variable [Gc]
variable [Yl]
variable {P:Program}{h:SH}{R:Type}{r:R}
def p8 {α:Type}(xs ys:List α)(o c:Nat):List α:=xs.take o++(ys.take c++xs.drop (o+c))
omit [Yl] in
theorem qPU {α:Type}{xs ys:List α}(h1:o+c<=xs.length)(h2:c<=ys.length):xs.length=(p8 xs ys o c).length:=by
 simp[p8];omega
omit [Yl] in
theorem qJX {t:Ty}{xs ys:List t.sem}(h2:c<=ys.length) :
 yF ((xs.flatMap t.cells).map PV.f) (o*t.w) (((ys.flatMap t.cells).map PV.f).take (c*t.w))=((p8 xs ys o c).flatMap t.cells).map PV.f:=by
 have hl:(((ys.flatMap t.cells).map PV.f).take (c*t.w)).length=c*t.w:=by
  rw[zQE,zO5,zR];exact zQN (zP3 _ h2)
 unfold yF;rw[hl,<-zRF,<-zQ3,<-zQ3,<-zQ9,gN,gN,gK];unfold p8;simp[zR0,zPT]
def q6O (P:Program)(ts:List TypeId)(base x:SV)(h:SH)(K:SV->SH->zFC R):zFC R:=match ts with
 | [st,xt]=>(match zN P st,zN P xt with
   | some el,some _=>(match szT P el,qC3 P 8 el with
     | some (s+1),some t=>cond (Nat.beq t.w (s+1)) (match qVC t x h with
       | some ys=>(match base with
         | .own j g n=>(match slk j h.l with
           | some (.list el' gr g' _ u xs)=>cond (Nat.beq el' el&&Nat.beq g g') (match qDT u t xs with
             | some xs=>K (.d (.int .i64) ((Nat.min ys.length n:Nat):Int)) (h.put j fun v=>.list el gr g v t (p8 xs ys 0 (Nat.min ys.length n)))
             | none=>.fail) .fail
           | _=>.fail)
         | .sl j g n o m=>(match slk j h.l with
           | some (.list el' gr g' _ u xs)=>cond (Nat.beq el' el&&Nat.beq g g') (match qDT u t xs with
             | some xs=>K (.d (.int .i64) ((Nat.min ys.length m:Nat):Int)) (h.put j fun v=>.list el gr g v t (p8 xs ys o (Nat.min ys.length m)))
             | none=>.fail) .fail
           | _=>.fail)
         | .d (.list _ _) xs=>.ite (Nat.beq (List.length xs) 0) (K (.d (.int .i64) 0) h) .fail
         | .c (.slice none 0 _)=>K (.d (.int .i64) 0) h
         | _=>.fail)
       | none=>.fail) .fail
     | _,_=>.fail)
   | _,_=>.fail)
 | _=>.fail
theorem q0Y {K:SV->SH->zFC R}(ho:OkH P h)(hb:base.ok h)(hx:x.ok h)(e:(q6O P ts base x h K).run=some r) :
 ∃ v h',qIG P ts base.enc x.enc (qC h.l)=some (v.enc,qC h'.l)∧Post P h h' v∧(K v h').run=some r:=by
 unfold q6O at e;split at e
 ·rename_i st xt;split at e
  ·rename_i el el2 hel zHD;split at e
   ·rename_i s t hs hty;have e_:=qE e;clear e;obtain⟨c1,e⟩:=e_;have hw:s+1=t.w:=(zOU c1).symm;split at e
    ·rename_i ys hys;have hnw:nI P (s+1) x.enc (qC h.l)=some (ys.length,(ys.flatMap t.cells).map .f):=hw ▸ qHM ho hx hys;have hlen:((ys.flatMap t.cells).map PV.f).length=ys.length*(s+1):=by rw[zO5,zR,hw]
     have key:∀ {j g n o m w:Nat} {gr:Bool} {xs:List t.sem},slk j h.l=some (.list el gr g w t xs)->n=xs.length->o+m<=n ->
      (K (.d (.int .i64) ((Nat.min ys.length m:Nat):Int)) (h.put j fun v=>.list el gr g v t (p8 xs ys o (Nat.min ys.length m)))).run=some r ->
      ∃ v h',qIG P [st,xt] (.own j n o m) x.enc (qC h.l)=some (v.enc,qC h'.l)∧Post P h h' v∧(K v h').run=some r:=by
      intro j g n o m w gr xs hk hn hom e;have hc:Nat.min ys.length m<=ys.length:=Nat.min_le_left _ _;have hc2:Nat.min ys.length m<=m:=Nat.min_le_right _ _;have hp:=vU (f:=fun v=>.list el gr g v t (p8 xs ys o (Nat.min ys.length m))) ho hk ⟨_,rfl,qPU (by omega) hc⟩;refine⟨_,_,?_,⟨hp.1,hp.2,by simp[SV.ok]⟩,e⟩;simp only[qIG,hel,zHD,hs,hnw,zI hk];rw[show (SO.list el gr g w t xs).enc.el=el from rfl,show Nat.beq (n*(s+1)) (SO.list el gr g w t xs).enc.cs.length=true by rw[qU,hw,hn];exact aM _,hlen,qCP];simp only[aM,zPQ,cond_true];rw[show qC (h.put j fun v=>.list el gr g v t (p8 xs ys o (Nat.min ys.length m))).l=xN j (SO.list el gr g h.next t (p8 xs ys o (Nat.min ys.length m))).enc (qC h.l) from xU j _ _];rw[hw];show some (_,xN j ⟨el,gr,yF ((xs.flatMap t.cells).map PV.f) (o*t.w) _⟩ (qC h.l))=some (_,xN j ⟨el,gr,((p8 xs ys o (Nat.min ys.length m)).flatMap t.cells).map PV.f⟩ (qC h.l));rw[qJX hc];simp[SV.enc,Ty.fv,fvv]
     split at e
     ·rename_i j g n;split at e
      ·rename_i el' gr g' w u xs0 hk;have e_:=qE e;clear e;obtain⟨c2,e⟩:=e_;rw[zOT] at c2;have he:el'=el:=zOU c2.1;have hg:g=g':=zOU c2.2;split at e
       ·rename_i xs hxs;have hcast:=uI hxs
        have hk2:slk j h.l=some (.list el gr g w t xs):=by
         rw[hk,he,<-hg];cases hcast;rfl
        simp only[SV.ok] at hb;exact key hk2 (hb.2 _ _ _ _ _ hk2) (by omega) e
       ·cases e
      ·cases e
     ·rename_i j g n o m;split at e
      ·rename_i el' gr g' w u xs0 hk;have e_:=qE e;clear e;obtain⟨c2,e⟩:=e_;rw[zOT] at c2;have he:el'=el:=zOU c2.1;have hg:g=g':=zOU c2.2;split at e
       ·rename_i xs hxs;have hcast:=uI hxs
        have hk2:slk j h.l=some (.list el gr g w t xs):=by
         rw[hk,he,<-hg];cases hcast;rfl
        simp only[SV.ok] at hb;exact key hk2 (hb.1.2 _ _ _ _ _ hk2) hb.2 e
       ·cases e
      ·cases e
     ·rename_i el' u xs
      rcases run_ite e with ⟨z,e⟩ | ⟨z,e⟩
      ·refine⟨_,_,?_,⟨.refl _,ho,by simp[SV.ok]⟩,e⟩;have hz:xs=[]:=zP6.1 (zOU z);subst hz;simp[qIG,hel,zHD,hs,hnw,SV.enc,Ty.fv,fvv]
      ·cases e
     ·refine⟨_,_,?_,⟨.refl _,ho,by simp[SV.ok]⟩,e⟩;simp[qIG,hel,zHD,hs,hnw,SV.enc,Ty.fv,fvv]
     ·cases e
    ·cases e
   ·cases e
  ·cases e
 ·cases e
def q54 (P:Program)(ts:List TypeId)(base x:SV)(k:Nat)(h:SH)(K:SV->SH->zFC R):zFC R:=match base with
 | .sl j g n o m=>(match ts with
   | [st,xt]=>(match zN P st,zN P xt with
     | some el,some _=>(match szT P el,qC3 P 8 el with
       | some (s+1),some t=>cond (Nat.beq t.w (s+1)&&Nat.beq o 0) (match qVC t x h with
         | some ys=>(match slk j h.l with
           | some (.list el' gr g' _ u xs)=>cond (Nat.beq el' el&&Nat.beq g g') (match qDT u t xs with
             | some xs=>.ite (Nat.beq ys.length 0) (K base h)
                (.ite (Nat.ble (m+ys.length) n) (K (.sl j g n 0 (m+ys.length)) (h.put j fun v=>.list el gr g v t (p8 xs ys m ys.length)))
                  (.ite (Nat.beq m n) (qHK P ts (.own j g n) x k h K) .fail))
             | none=>.fail) .fail
           | _=>.fail)
         | none=>.fail) .fail
       | _,_=>.fail)
     | _,_=>.fail)
   | _=>.fail)
 | base=>qHK P ts base x k h K
theorem q0R {k:Nat}{K:SV->SH->zFC R}(ho:OkH P h)(hb:base.ok h)(hx:x.ok h)(e:(q54 P ts base x k h K).run=some r) :
 ∃ v h',zT P ts base.enc x.enc k (qC h.l)=some (v.enc,qC h'.l)∧Post P h h' v∧(K v h').run=some r:=by
 unfold q54 at e;split at e
 case h_2=>exact qFD ho hb hx e
 rename_i j g n o m;split at e
 case h_2=>cases e
 rename_i st xt;split at e
 case h_2=>cases e
 rename_i el el2 hel zHD;split at e
 case h_2=>cases e
 rename_i s t hs hty;obtain⟨c1,e1⟩:=qE e;rw[zOT] at c1;have hw:s+1=t.w:=(zOU c1.1).symm;have h0:o=0:=zOU c1.2;subst h0;split at e1
 case h_2=>cases e1
 rename_i ys hys;have hnw:nI P (s+1) x.enc (qC h.l)=some (ys.length,(ys.flatMap t.cells).map .f):=hw ▸ qHM ho hx hys;split at e1
 case h_2=>cases e1
 rename_i el' gr g' w u xs0 hk;obtain⟨c2,e2⟩:=qE e1;rw[zOT] at c2;have he:el'=el:=zOU c2.1;have hg:g=g':=zOU c2.2;split at e2
 case h_2=>cases e2
 rename_i xs hxs;have hcast:=uI hxs
 have hk2:slk j h.l=some (.list el gr g w t xs):=by
  rw[hk,he,<-hg];cases hcast;rfl
 simp only[SV.ok] at hb;have hnl:n=xs.length:=hb.1.2 _ _ _ _ _ hk2;have hlen:((ys.flatMap t.cells).map PV.f).length=ys.length*(s+1):=by rw[zO5,zR,hw]
 rcases run_ite e2 with ⟨z,e3⟩ | ⟨z,e3⟩
 ·refine⟨_,_,?_,⟨.refl _,ho,by simp only[SV.ok];exact hb⟩,e3⟩;simp only[zT,hel,zHD,hs,SV.enc,hnw,zI hk2];rw[show (SO.list el gr g w t xs).enc.el=el from rfl,show Nat.beq (n*(s+1)) (SO.list el gr g w t xs).enc.cs.length=true by rw[qU,hw,hnl];exact aM _];simp only[aM,zPQ,cond_true,z]
 ·rcases run_ite e3 with ⟨z2,e4⟩ | ⟨z2,e4⟩
  ·have hle:=zO2 z2;have hp:=vU (f:=fun v=>.list el gr g v t (p8 xs ys m ys.length)) ho hk2 ⟨_,rfl,qPU (by omega) (zOV _)⟩;refine⟨_,_,?_,⟨hp.1,hp.2,?_⟩,e4⟩
   ·simp only[zT,hel,zHD,hs,SV.enc,hnw,zI hk2];rw[show (SO.list el gr g w t xs).enc.el=el from rfl,show Nat.beq (n*(s+1)) (SO.list el gr g w t xs).enc.cs.length=true by rw[qU,hw,hnl];exact aM _,hlen,qCP];simp only[aM,zPQ,cond_true,z,z2,cond_false];rw[show qC (h.put j fun v=>.list el gr g v t (p8 xs ys m ys.length)).l=xN j (SO.list el gr g h.next t (p8 xs ys m ys.length)).enc (qC h.l) from xU j _ _];rw[hw];show some (_,xN j ⟨el,gr,yF ((xs.flatMap t.cells).map PV.f) (m*t.w) _⟩ (qC h.l))=some (_,xN j ⟨el,gr,((p8 xs ys m ys.length).flatMap t.cells).map PV.f⟩ (qC h.l));rw[<-qJX (zOV _),zPI (by rw[zO5,zR];exact zOV _)]
   ·simp only[SV.ok];exact⟨hb.1.keep hp.1,by omega⟩
  ·rcases run_ite e4 with ⟨z3,e5⟩ | ⟨_,e5⟩
   ·have hmn:m=n:=zOU z3;subst hmn;have:=qFD (base:=.own j g m) ho (by simp only[SV.ok];exact hb.1) hx e5;simpa only[SV.enc] using this
   ·cases e5
def q5E (most:Nat)(i:Int):Option Nat:=if 0<=i∧i<=(most:Int) then some i.toNat else none
def qPL (d most:Nat)(x:Option SV)(K:Nat->zFC R):zFC R:=match x with
 | none=>K d
 | some v=>(match asI v with
   | some (_,i)=>.bind (q5E most i) K
   | none=>.fail)
theorem vS {d most:Nat}{x:Option SV}{K:Nat->zFC R}(e:(qPL d most x K).run=some r):∃ n,bnd d most (x.map SV.enc)=some n∧(n=d∨n<=most)∧(K n).run=some r:=by
 unfold qPL at e;split at e
 ·exact⟨d,rfl,.inl rfl,e⟩
 ·rename_i v;split at e
  ·rename_i k i hi;have e_:=run_bind e;clear e;obtain⟨n,hn,e⟩:=e_;refine⟨n,?_,.inr ?_,e⟩
   ·simp only[zO7,yC hi,fvv,bnd];exact hn
   ·unfold q5E at hn;split at hn
    ·cases hn;omega
    ·cases hn
  ·cases e
def qVS (P:Program)(t:TypeId)(x:SV)(lo hi:Option SV)(h:SH)(K:SV->zFC R):zFC R:=match x with
 | .d (.list el u) xs=>(match zN P t,szT P el with
   | some el',some s=>cond (Nat.beq el' el&&Nat.beq s u.w) (qPL (List.length xs) (List.length xs) hi fun b=>qPL 0 b lo fun a=>K (.d (.list el u) ((List.drop a xs).take (b - a)))) .fail
   | _,_=>.fail)
 | .c (.slice none 0 0)=>(match zN P t with
   | some el=>cond (szT P el).isSome (qPL 0 0 hi fun _=>qPL 0 0 lo fun _=>K x) .fail
   | none=>.fail)
 | .own k g n=>(match zN P t,slk k h.l with
   | some el',some (.list el _ g' _ u _)=>cond (Nat.beq el' el&&Nat.beq g g') (qPL n n hi fun b=>qPL 0 b lo fun a =>
      .ite (Nat.beq a 0) (K (.sl k g n 0 b)) (.ite (Nat.beq a b) (K (.d (.list el u) [])) (K (.sl k g n a (b - a))))) .fail
   | _,_=>.fail)
 | .sl k g n o m=>(match zN P t,slk k h.l with
   | some el',some (.list el _ g' _ u _)=>cond (Nat.beq el' el&&Nat.beq g g') (qPL m m hi fun b=>qPL 0 b lo fun a =>
      .ite (Nat.beq a 0) (K (.sl k g n o b)) (.ite (Nat.beq a b) (K (.d (.list el u) [])) (K (.sl k g n (o+a) (b - a))))) .fail
   | _,_=>.fail)
 | .ref k 0 w=>(match qPO P t,slk k h.l with
   | some (m,el2),some (.spc v (.arr el _ xs))=>(match szT P el2 with
     | some 1=>cond (!Nat.beq el2 el&&Nat.beq m w) (.ite (Nat.beq w (List.length xs)) (qPL m m hi fun b=>qPL 0 b lo fun a=>.ite (Nat.beq a 0&&Nat.beq b m) (K (.asl el2 k v m)) .fail) .fail) .fail
     | _=>.fail)
   | _,_=>.fail)
 | _=>.fail
theorem qVX {t:TypeId}{lo hi:Option SV}{K:SV->zFC R}(ho:OkH P h)(hx:x.ok h)(e:(qVS P t x lo hi h K).run=some r) :
 ∃ v,wW P t x.enc (lo.map SV.enc) (hi.map SV.enc) (qC h.l)=some v.enc∧v.ok h∧(K v).run=some r:=by
 unfold qVS at e
 have key:∀ {k g n o m w:Nat} {gr:Bool} {el el':TypeId} {u:Ty} {xs:List u.sem},slk k h.l=some (.list el gr g w u xs)->n=xs.length->o+m<=n->g < h.next->zN P t=some el'->Nat.beq el' el=true ->
  ∀ a b,bnd m m (hi.map SV.enc)=some b->b<=m->bnd 0 b (lo.map SV.enc)=some a->a<=b ->
  (zFC.ite (Nat.beq a 0) (K (.sl k g n o b)) (.ite (Nat.beq a b) (K (.d (.list el u) [])) (K (.sl k g n (o+a) (b - a))))).run=some r ->
  ∃ v,wW P t (.own k n o m) (lo.map SV.enc) (hi.map SV.enc) (qC h.l)=some v.enc∧v.ok h∧(K v).run=some r:=by
  intro k g n o m w gr el el' u xs hk hn hom hg hel hbe a b hb hbm ha hab e;have hl:=ho.list _ _ _ _ _ _ _ hk
  have pre:wW P t (.own k n o m) (lo.map SV.enc) (hi.map SV.enc) (qC h.l)=some (cond (Nat.beq a 0) (.own k n o b) (cond (Nat.beq a b) (.f (.l el 0 [])) (.own k n (o+a) (b - a)))):=by
   simp only[wW,zI hk,hel];rw[show (SO.list el gr g w u xs).enc.el=el from rfl,hl.2.1,hb];simp only[ha,qU,hn,aM,hbe,zPQ,cond_true]
  have hsl:qX9 h k g n:=⟨hg,fun el2 gr2 w2 t2 xs2 hk2=>by
   rw[hk] at hk2;cases hk2
   exact hn⟩
  rw[pre]
  rcases run_ite e with ⟨z,e⟩ | ⟨z,e⟩
  ·exact⟨_,by rw[z];simp[SV.enc],by simp only[SV.ok];exact⟨hsl,by omega⟩,e⟩
  ·rcases run_ite e with ⟨z2,e⟩ | ⟨z2,e⟩
   ·exact⟨_,by rw[z,z2];simp[SV.enc,Ty.fv],by simp[SV.ok],e⟩
   ·exact⟨_,by rw[z,z2];simp[SV.enc],by simp only[SV.ok];exact⟨hsl,by omega⟩,e⟩
 split at e
 ·rename_i el u xs;split at e
  ·rename_i el' s hel hs;have e_:=qE e;clear e;obtain⟨c1,e⟩:=e_;rw[zOT] at c1;have hw:s=u.w:=zOU c1.2;have he:el'=el:=zOU c1.1;subst hw he;obtain⟨b,hb,hb2,e1⟩:=vS e;obtain⟨a,ha,ha2,e2⟩:=vS e1;have hbl:b<=xs.length:=by rcases hb2 with q | q <;> omega
   have hab:a<=b:=by rcases ha2 with q | q <;> omega
   refine⟨_,?_,by simp[SV.ok],e2⟩;simp only[SV.enc,Ty.fv,wW,hel,hs,hb,ha,aM,zR,zPQ,cond_true];rw[gK,gN]
   cases hq:Nat.beq a b with
   | true =>
     have:a=b:=zOU hq;subst this;simp
   | false =>
     simp only[cond_false,zQE,zRK];rw[zQN (by omega)]
  ·cases e
 ·split at e
  ·rename_i el hel;have e_:=qE e;clear e;obtain⟨c1,e⟩:=e_;obtain⟨b,hb,hb2,e1⟩:=vS e;obtain⟨a,ha,ha2,e2⟩:=vS e1;refine⟨_,?_,by simp[SV.ok],e2⟩;have hb':bnd 0 0 (hi.map SV.enc)=some b:=hb;simp only[SV.enc,fvv,wW,hel,hb',ha,c1,cond_true]
  ·cases e
 ·rename_i k g n;split at e
  ·rename_i el' el gr g' w u xs hel hk;have e_:=qE e;clear e;obtain⟨c1,e⟩:=e_;rw[zOT] at c1;have hg:g=g':=zOU c1.2;subst hg;obtain⟨b,hb,hb2,e1⟩:=vS e;obtain⟨a,ha,ha2,e2⟩:=vS e1;simp only[SV.ok] at hx;refine key hk (hx.2 _ _ _ _ _ hk) (by omega) hx.1 hel c1.1 a b hb (by rcases hb2 with q | q <;> omega) ha (by rcases ha2 with q | q <;> omega) ?_;rw[zPH];exact e2
  ·cases e
 ·rename_i k g n o m;split at e
  ·rename_i el' el gr g' w u xs hel hk;have e_:=qE e;clear e;obtain⟨c1,e⟩:=e_;rw[zOT] at c1;have hg:g=g':=zOU c1.2;subst hg;obtain⟨b,hb,hb2,e1⟩:=vS e;obtain⟨a,ha,ha2,e2⟩:=vS e1;simp only[SV.ok] at hx;exact key hk (hx.1.2 _ _ _ _ _ hk) hx.2 hx.1.1 hel c1.1 a b hb (by rcases hb2 with q | q <;> omega) ha (by rcases ha2 with q | q <;> omega) e2
  ·cases e
 ·rename_i k w;split at e
  ·rename_i m el2 v el ik xs ha hk;split at e
   ·rename_i hs;obtain⟨c1,e0⟩:=qE e;rw[zOT,zPN] at c1;have hmw:=zOU c1.2;subst hmw
    rcases run_ite e0 with ⟨z,e1⟩ | ⟨_,e1⟩
    ·obtain⟨b,hb,_,e2⟩:=vS e1;obtain⟨a,hal,_,e3⟩:=vS e2
     rcases run_ite e3 with ⟨z2,e4⟩ | ⟨_,e4⟩
     ·rw[zOT] at z2;have h0:=zOU z2.1;have h1:=zOU z2.2;subst h0 h1;refine⟨_,?_,?_,e4⟩
      ·simp only[SV.enc,wW,zI hk,ha,hs,hb,hal];show cond (Nat.beq el2 el&&_) _ (cond (Nat.beq b (xs.map fun x=>fvv (.int ik x)).length&&(Nat.beq b b&&(Nat.beq 0 0&&(!false&&(Nat.beq 0 0&&Nat.beq b b))))) _ _)=_;rw[c1.1,zO5,z];simp only[Bool.false_and,cond_false,aM,zPQ,Bool.not_false,cond_true]
      ·simp only[SV.ok];refine⟨ho.ver _ _ hk,fun ob hob _=>?_⟩;rw[hk] at hob;cases hob;exact⟨_,_,_,rfl,zOU z⟩
     ·cases e4
    ·cases e1
   ·cases e
  ·cases e
 ·cases e
end
end Go.Sv
namespace Go.Sv
open Go.Idl
variable [Gc]
variable {P:Program}{t t2:TypeId}{a b:ByteArray}{ph:PHp}
theorem dI {v:Value}(h3:qLY v=true)(h4:ofC v=fvv v):qXT (qCZ H00 v)=some (fvv v):=by
 unfold qCZ;rw[h3];show some (ofC v)=_;rw[h4]
theorem qNU {op:BinOp}{v:Value}(h1:zFS P (cop (.binOp op t (.const (.string a)) (.const (.string b)) t2)) op t (.string a) (.string b) [] H00=jK P (cop (.binOp op t (.const (.string a)) (.const (.string b)) t2)) [] H00)
 (h2:xM P (execOp (Env.val []) (cop (.binOp op t (.const (.string a)) (.const (.string b)) t2)))=some (.value v)) (h3:qLY v=true) (h4:ofC v=fvv v):wY P op t t2 (fvv (.string a)) (fvv (.string b)) ph=some (fvv v):=by
 unfold wY;simp only[fvv,pl,zCE,cond_false];show qXT (zFS P _ op t (.string a) (.string b) [] H00)=_;rw[h1];unfold jK;have:zM (kY (Env.val []) (cop (.binOp op t (.const (.string a)) (.const (.string b)) t2)).op.operands.toList)=true:=rfl;rw[if_pos this,h2];exact dI h3 h4
theorem q5U (hl:a.size+b.size<=9223372036854775807):wY P .add t t2 (fvv (.string a)) (fvv (.string b)) ph=some (fvv (.string (a++b))):=by
 refine qNU rfl ?_ rfl rfl;have hm:IntKind.i64.max=9223372036854775807:=rfl;have:¬ (((a.size+b.size:Nat):Int) > IntKind.i64.max):=by rw[hm];omega
 show xM P (do eqGuard .add t (.const (.string a)) (.const (.string b)) (.string a) (.string b);let v <- Op.stringOp .add a b;pure (Next.value v))=_;unfold Op.stringOp;simp only[this,if_false];rfl
theorem q7U:wY P .eql t t2 (fvv (.string a)) (fvv (.string b)) ph=some (fvv (.bool (a.toList==b.toList))):=qNU rfl rfl rfl rfl
theorem q6F:wY P .neq t t2 (fvv (.string a)) (fvv (.string b)) ph=some (fvv (.bool (!(a.toList==b.toList)))):=qNU rfl rfl rfl rfl
theorem dB {α β:Type}(s:Sem α)(g:α->Sem β):xM P (s >>= g)=(xM P s).bind fun a=>xM P (g a):=vH g s
theorem dP {α:Type}(a:α):xM P (pure a:Sem α)=some a:=rfl
theorem q1U {ts:Array TypeId}(hs:qZW P ts=true):∃ t,ts[0]?=some t∧P.underlying t=some .string:=by
 unfold qZW at hs
 cases h0:ts[0]? with
 | none=>rw[h0] at hs;cases hs
 | some t =>
   rw[h0] at hs;simp only[zPJ] at hs;split at hs
   ·rename_i hq;exact⟨t,rfl,hq⟩
   ·cases hs
theorem q90 {t:TypeId}{ts:Array TypeId}{ty:TypeId}(h0:ts[0]?=some t)(hu:P.underlying t=some .string):xM P (Go.Builtin.len_ ts ty #[.string a])=some (goInt a.size):=by
 unfold Go.Builtin.len_;simp only[h0,dB,z8,hu,zPJ,zQ1,zPP];rfl
theorem qO4 {x:Operand}{ts:Array TypeId}{ty:TypeId}{env:Env}(hs:qZW P ts=true)(hx:env.val x=.string a) :
 qXT (jK P (cop (.call ⟨.builtin .len,#[x],ts⟩) ty) env H00)=some (fvv (.int .i64 (a.size:Int))):=by
 have h2:kY env.val (cop (.call ⟨.builtin .len,#[x],ts⟩) ty).op.operands.toList=[env.val x]:=rfl;unfold jK;rw[h2];obtain⟨t,h0,hu⟩:=q1U hs;have hp:zM [env.val x]=true:=by rw[hx];rfl
 rw[if_pos hp]
 have he:xM P (execOp env.val (cop (.call ⟨.builtin .len,#[x],ts⟩) ty))=some (.value (goInt a.size)):=by
  simp only[cop,execOp,resolve,List.map_toArray,zPB,zQ6,hx];show xM P (do let v <- Go.Builtin.len_ ts ty #[.string a];pure (Next.value v))=_;rw[dB,q90 h0 hu];rfl
 rw[he];exact dI rfl rfl
def q8B (s:ByteArray)(i:Int):Option Int:=if 0<=i then (s[i.toNat]?).map fun b=>(b.toNat:Int) else none
theorem q2F {t:TypeId}{s:ByteArray}{k:IntKind}{i c:Int}{ty:TypeId}(hu:P.underlying t=some .string)(h:q8B s i=some c):qNW P (.index t (.const (.string s)) (.const (.int k i))) ty=some (fvv (.int .u8 c)):=by
 unfold qNW jK;have hp:zM (kY (Env.val []) (cop (.index t (.const (.string s)) (.const (.int k i))) ty).op.operands.toList)=true:=rfl;rw[if_pos hp]
 have he:xM P (execOp (Env.val []) (cop (.index t (.const (.string s)) (.const (.int k i))) ty))=some (.value (.int .u8 c)):=by
  show xM P (do let v <- Instr.index t (.string s) (.int k i);pure (Next.value v))=_;unfold q8B at h;split at h
  ·rename_i hc;obtain⟨b,hb,rfl⟩:=zO6.1 h;unfold Instr.index;simp only[dB,z8,hu,zPJ];have h0:xM P (asIntOf (.int k i))=some (k,i):=rfl;rw[h0];simp only[zPJ,if_pos hc,hb,dP]
  ·cases h
 rw[he];exact dI rfl rfl
theorem qAS {k:IntKind}{i:Int}{y n:Nat}{code:BoundsCode}(h:(if 0<=i∧i<=(y:Int) then some i.toNat else none)=some n):xM P (Instr.sliceBound (.int k i) y code)=some n:=by
 unfold Instr.sliceBound;rw[dB];have h0:xM P (asIntOf (.int k i))=some (k,i):=rfl;rw[h0];simp only[zPJ];split at h
 ·rename_i hc;rw[if_pos hc];cases h;rfl
 ·cases h
theorem qY3 {d most n:Nat}{x:Option PV}(h:bnd d most x=some n):(x=none∧n=d)∨∃ k i,x=some (fvv (.int k i))∧(if 0<=i∧i<=(most:Int) then some i.toNat else none)=some n:=by
 unfold bnd at h;split at h
 ·cases h;exact .inl ⟨rfl,rfl⟩
 ·rename_i k i;exact .inr ⟨k,i,rfl,h⟩
 ·cases h
theorem q2Z {t:TypeId}{s:ByteArray}{lo hi:Option Operand}{l u:Nat}{env:List PV}{ty:TypeId}(hu:P.underlying t=some .string)(h1:bnd s.size s.size (hi.map (qJ env))=some u)(h2:bnd 0 u (lo.map (qJ env))=some l) :
 qNW P (.slice t (.const (.string s)) (lo.map fun a=>.const ((pl (qJ env a)).getD undef)) (hi.map fun a=>.const ((pl (qJ env a)).getD undef)) none) ty=some (fvv (.string (s.extract l u))):=by
 have opt:∀ {o:Option Operand} {d most n:Nat},bnd d most (o.map (qJ env))=some n->(o=none∧n=d)∨∃ k i,(o.map fun a=>Operand.const ((pl (qJ env a)).getD undef))=some (.const (.int k i))∧(if 0<=i∧i<=(most:Int) then some i.toNat else none)=some n:=fun {o d most n} h=>by
  rcases qY3 h with ⟨q,e⟩ | ⟨k,i,q,e⟩
  ·cases o with
   | none=>exact .inl ⟨rfl,e⟩
   | some a=>cases q
  ·cases o with
   | none=>cases q
   | some a =>
     have q:qJ env a=fvv (.int k i):=by simpa using q
     exact .inr ⟨k,i,by simp[q,fvv,pl],e⟩
 unfold qNW jK
 have hk:∀ (lo' hi':Option Operand) (vl vh:Option Value),lo'.map (Env.val [])=vl->hi'.map (Env.val [])=vh->zM (kY (Env.val []) (cop (.slice t (.const (.string s)) lo' hi' none) ty).op.operands.toList)=true ->
  xM P (Instr.sliceBounds false s.size s.size vl vh none)=some (l,u,s.size)->qXT (if zM (kY (Env.val []) (cop (.slice t (.const (.string s)) lo' hi' none) ty).op.operands.toList)=true then qF1 H00 (xM P (execOp (Env.val []) (cop (.slice t (.const (.string s)) lo' hi' none) ty))) else none)=some (fvv (.string (s.extract l u))):=by
  intro lo' hi' vl vh e1 e2 hp hb;rw[if_pos hp]
  have he:xM P (execOp (Env.val []) (cop (.slice t (.const (.string s)) lo' hi' none) ty))=some (.value (.string (s.extract l u))):=by
   show xM P (do let v <- Instr.sliceAt t (.string s) (lo'.map (Env.val [])) (hi'.map (Env.val [])) none;pure (Next.value v))=_;rw[e1,e2];unfold Instr.sliceAt;simp only[dB,z8,hu,zPJ];unfold Instr.slice;simp only[dB,z8,hu,zPJ];simp only[zTH,zQW,if_false,dB,hb,zPJ,dP]
  rw[he];exact dI rfl rfl
 have hB:∀ (vl vh:Option Value),(vh=none∧u=s.size∨∃ k i,vh=some (.int k i)∧(if 0<=i∧i<=(s.size:Int) then some i.toNat else none)=some u)->(vl=none∧l=0∨∃ k i,vl=some (.int k i)∧(if 0<=i∧i<=(u:Int) then some i.toNat else none)=some l) ->
  xM P (Instr.sliceBounds false s.size s.size vl vh none)=some (l,u,s.size):=by
  intro vl vh a b;unfold Instr.sliceBounds;rcases a with ⟨rfl,rfl⟩ | ⟨k,i,rfl,ha⟩ <;> rcases b with ⟨rfl,rfl⟩ | ⟨k',i',rfl,hb⟩ <;> simp only[dB,dP,zPJ,zTH,zQW,if_false]
  ·rw[qAS hb];rfl
  ·rw[qAS ha];rfl
  ·rw[qAS ha];simp only[zPJ];rw[qAS hb];rfl
 rcases opt h1 with ⟨rfl,e1⟩ | ⟨k,i,e1,f1⟩ <;> rcases opt h2 with ⟨rfl,e2⟩ | ⟨k',i',e2,f2⟩
 ·exact hk none none none none rfl rfl rfl (hB _ _ (.inl ⟨rfl,e1⟩) (.inl ⟨rfl,e2⟩))
 ·rw[e2];exact hk _ none _ none rfl rfl rfl (hB _ _ (.inl ⟨rfl,e1⟩) (.inr ⟨k',i',rfl,f2⟩))
 ·rw[e1];exact hk none _ none _ rfl rfl rfl (hB _ _ (.inr ⟨k,i,rfl,f1⟩) (.inl ⟨rfl,e2⟩))
 ·rw[e1,e2];exact hk _ _ _ _ rfl rfl rfl (hB _ _ (.inr ⟨k,i,rfl,f1⟩) (.inr ⟨k',i',rfl,f2⟩))
theorem q57 {s d:TypeId}{k k':IntKind}{x:Int}{u:TypeDesc}(hs:P.underlying s=some u)(hd:P.underlying d=some (.int k')):bG P (fun a=>.convert s d a) (fvv (.int k x))=some (fvv (.int k' (k'.wrap x))):=by
 have hl:pl (fvv (.int k x))=some (.int k x):=rfl;unfold bG;rw[hl];unfold qNW jK;have hp:zM (kY (Env.val []) (cop (.convert s d (.const (.int k x)))).op.operands.toList)=true:=rfl;simp only[hp,if_true]
 have he:xM P (execOp (Env.val []) (cop (.convert s d (.const (.int k x)))))=some (.value (.int k' (k'.wrap x))):=by
  show xM P (do let v <- convert s d (.int k x);pure (Next.value v))=_;unfold convert;simp only[dB,z8,hs,hd,zPJ];rfl
 rw[he];exact dI rfl rfl
theorem q2Y {s d:TypeId}{x:ByteArray}{u:TypeDesc}(hs:P.underlying s=some u)(hd:P.underlying d=some .string):bG P (fun a=>.convert s d a) (fvv (.string x))=some (fvv (.string x)):=by
 have hl:pl (fvv (.string x))=some (.string x):=rfl;unfold bG;rw[hl];unfold qNW jK;have hp:zM (kY (Env.val []) (cop (.convert s d (.const (.string x)))).op.operands.toList)=true:=rfl;simp only[hp,if_true]
 have he:xM P (execOp (Env.val []) (cop (.convert s d (.const (.string x)))))=some (.value (.string x)):=by
  show xM P (do let v <- convert s d (.string x);pure (Next.value v))=_;unfold convert;simp only[dB,z8,hs,hd,zPJ];cases u <;> rfl
 rw[he];exact dI rfl rfl
end Go.Sv
namespace Go.Sv
open Go.Idl
noncomputable section
variable [Gc]
variable [Yl]
variable {P:Program}{h:SH}{R:Type}{r:R}
def qE6:SV->Option Value
 | .d (.int k) x=>some (.int k x)
 | .d .bool x=>some (.bool x)
 | .d .str x=>some (.string x)
 | .c v=>some v
 | _=>none
theorem sI {v:SV}{a:Value}(e:qE6 v=some a):v.enc=fvv a:=by
 unfold qE6 at e;split at e <;> cases e <;> simp[SV.enc,Ty.fv,fvv]
def qGA:List SV->Option (List Value)
 | []=>some []
 | v::l=>match qE6 v,qGA l with
   | some a,some b=>some (a::b)
   | _,_=>none
def bF:SV->Option Value
 | .agg l=>(match qGA l with
   | some vs=>some (.agg vs.toArray)
   | none=>none)
 | v=>qE6 v
theorem qFR:∀ {l:List SV} {vs:List Value},qGA l=some vs->qLZ (qB l)=some vs
 | [],vs,e=>by cases e;simp[qB,qLZ]
 | v::l,vs,e=>by
   unfold qGA at e;split at e
   ·rename_i a b ha hb;cases e;simp only[qB,sI ha,fvv,qLZ,pl1,qFR hb]
   ·cases e
theorem wM {v:SV}{a:Value}(e:bF v=some a):pl v.enc=some a:=by
 unfold bF at e;split at e
 ·rename_i l;split at e
  ·rename_i vs hvs;cases e;simp only[SV.enc,pl,qFR hvs]
  ·cases e
 ·rw[sI e];rfl
def zEJ (op:BinOp)(a b:ByteArray)(K:SV->zFC R)(F:zFC R):zFC R:=match op with
 | .add=>.ite (Nat.ble (a.size+b.size) 9223372036854775807) (K (.d .str (a++b))) .fail
 | .eql=>K (.d .bool (a.toList==b.toList))
 | .neq=>K (.d .bool (!(a.toList==b.toList)))
 | _=>F
def qRU (P:Program)(t:TypeId):Bool:=match P.underlying t with
 | some .string=>true
 | _=>false
omit [Yl] in
theorem qEY {t:TypeId}(e:qRU P t=true):P.underlying t=some .string:=by
 unfold qRU at e;split at e
 ·assumption
 ·cases e
def qMC (P:Program)(t:TypeId)(s:ByteArray)(ix:SV)(K:SV->zFC R):zFC R:=match asI ix with
 | some (_,i)=>cond (qRU P t) (.bind (q8B s i) fun c=>K (.d (.int .u8) c)) .fail
 | none=>.fail
def qZC (P:Program)(t:TypeId)(s:ByteArray)(lo hi:Option SV)(K:SV->zFC R):zFC R :=
 cond (qRU P t) (qPL s.size s.size hi fun b=>qPL 0 b lo fun a=>K (.d .str (s.extract a b))) .fail
def q1R (P:Program)(s d:TypeId)(x:SV)(K:SV->zFC R)(F:zFC R):zFC R:=match P.underlying s,P.underlying d with
 | some _,some (.int k')=>(match asI x with
   | some (_,a)=>K (.d (.int k') (k'.wrap a))
   | none=>F)
 | some _,some .string=>(match asS x with
   | some a=>K (.d .str a)
   | none=>F)
 | _,_=>F
def Ty.vals:(t:Ty)->List Value->Option (t.sem×List Value)
 | .int k,.int k' x::l=>cond (decide (k'=k)) (some (x,l)) none
 | .bool,.bool x::l=>some (x,l)
 | .str,.string x::l=>some (x,l)
 | .unit,l=>some ((),l)
 | .pair a b,l=>match a.vals l with
   | some (x,l1)=>(match b.vals l1 with
     | some (y,l2)=>some ((x,y),l2)
     | none=>none)
   | none=>none
 | _,_=>none
def Ty.ofV (t:Ty)(v:Value):Option t.sem:=cond t.one (match t.vals [v] with
 | some (x,[])=>some x
 | _=>none) (match v with
 | .agg a=>(match t.vals a.toList with
   | some (x,[])=>some x
   | _=>none)
 | _=>none)
def q2S (t:Ty)(x:t.sem):SV:=cond t.one (.d t x) (.agg (t.svs x))
omit [Yl] in
theorem qB7 (t:Ty)(x:t.sem):(q2S t x).ok h:=by
 unfold q2S
 cases t.one with
 | true=>simp[SV.ok]
 | false=>simp only[cond_false,SV.ok];exact qE0 t x
omit [Yl] in
theorem qJJ:∀ {a b:List Value},jG okC a=true->jG okC b=true->jG okC (a++b)=true
 | [],_,_,h=>h
 | x::a,b,h1,h2=>by
   rw[xR,zOT] at h1;rw[zQY,xR,h1.1,qJJ h1.2 h2];rfl
omit [Yl] in
theorem dO:∀ {t:Ty} {l l':List Value} {x:t.sem},t.vals l=some (x,l')->∃ us,l=us++l'∧jG okC us=true∧kY fvv us=(t.cells x).map PV.f
 | .int k,l,l',x,e=>by
   cases l with
   | nil=>cases e
   | cons v l =>
     cases v <;> try (cases e;done)
     rename_i k' y;have e:cond (decide (k'=k)) (some ((y:Int),l)) none=some (x,l'):=e
     cases hk:decide (k'=k) with
     | false=>rw[hk] at e;cases e
     | true =>
       rw[hk] at e;cases e;have:k'=k:=by simpa using hk
       subst this;exact⟨[.int k' x],rfl,rfl,rfl⟩
 | .bool,l,l',x,e=>by
   cases l with
   | nil=>cases e
   | cons v l =>
     cases v <;> try (cases e;done)
     cases e;exact⟨[.bool x],rfl,rfl,rfl⟩
 | .str,l,l',x,e=>by
   cases l with
   | nil=>cases e
   | cons v l =>
     cases v <;> try (cases e;done)
     cases e;exact⟨[.string x],rfl,rfl,rfl⟩
 | .unit,l,l',x,e=>by
   have e:some ((),l)=some ((),l'):=by cases l <;> exact e
   cases e;exact⟨[],rfl,rfl,rfl⟩
 | .list _ _,l,l',x,e=>by cases l <;> cases e
 | .raw,l,l',x,e=>by cases l <;> cases e
 | .ol _ _,l,l',x,e=>by cases l <;> cases e
 | .nif,l,l',x,e=>by cases l <;> cases e
 | .pair a b,l,l',x,e=>by
   have e:(match a.vals l with
    | some (x,l1)=>(match b.vals l1 with
      | some (y,l2)=>some ((x,y),l2)
      | none=>none)
    | none=>none)=some (x,l'):=by cases l <;> exact e
   split at e
   ·rename_i x1 l1 h1;split at e
    ·rename_i y l2 h2;cases e;obtain⟨us,rfl,u1,u2⟩:=dO h1;obtain⟨ws,rfl,w1,w2⟩:=dO h2;refine⟨us++ws,by rw[zPT],?_,?_⟩
     ·exact qJJ u1 w1
     ·show _=(a.cells x1++b.cells y).map PV.f;rw[xI] at u2 w2 ⊢;rw[zQD,zQD,u2,w2]
    ·cases e
   ·cases e
theorem sH {t:Ty}{v:Value}{x:t.sem}(e:t.ofV v=some x):ofC v=(q2S t x).enc:=by
 unfold Ty.ofV at e;unfold q2S
 cases ht:t.one with
 | true =>
   rw[ht] at e;simp only[cond_true] at e ⊢;split at e
   ·rename_i y hy;cases e;obtain⟨us,h1,h2,h3⟩:=dO hy;rw[zQT] at h1;subst h1;rw[Ty.cells_one ht] at h3
    have h3:fvv v=.f (t.fv x):=by
     have:kY fvv [v]=[fvv v]:=rfl;rw[this] at h3;simpa using h3
    have h2:okC v=true:=by
     rw[xR,zOT] at h2;exact h2.1
    have:ofC v=fvv v:=by
     unfold okC at h2;rw[zOT] at h2
     cases v <;> first | (exact absurd h2.2 (by decide)) | skip
     all_goals first | (show q6M _=_;unfold q6M okC;simp[h2.1,h2.2]) | (simp[oneCell] at h2)
    rw[this,h3];simp[SV.enc]
   ·cases e
 | false =>
   rw[ht] at e;simp only[cond_false] at e ⊢;split at e
   ·rename_i a;split at e
    ·rename_i y hy;cases e;obtain⟨us,h1,h2,h3⟩:=dO hy;rw[zQT] at h1;show cond (jG okC a.toList) (PV.agg (kY fvv a.toList)) .unk=_;rw[h1,h2,h3];simp only[cond_true,SV.enc,fP]
    ·cases e
   ·cases e
def smp (x:SV)(h:SH):Option (Nat×List (Value×Value)):=match x with
 | .mp k=>(match slk k h.l with
   | some (.spc _ (.map es))=>some (k,es)
   | _=>none)
 | _=>none
omit [Yl] in
theorem gI:∀ (n:Nat) (es:List (Value×Value)) (i:Nat),(xC n es)[i]?=(es[i]?).map fun p=>(⟨p.1,p.2,n+i⟩:MapEntry)
 | n,[],i=>by simp[xC]
 | n,p::es,0=>by simp[xC]
 | n,p::es,i+1=>by
   show (xC (n+1) es)[i]?=_;rw[gI (n+1) es i];have:n+1+i=n+(i+1):=by omega
   rw[this];simp
omit [Yl] in
theorem qCO:∀ (n:Nat) (es:List (Value×Value)),(xC n es).length=es.length
 | n,[]=>rfl
 | n,p::es=>by
   show (xC (n+1) es).length+1=_;rw[qCO,zPG]
omit [Yl] in
theorem oW:∀ (n:Nat) (es:List (Value×Value)) (k v:Value),xC n (es++[(k,v)])=xC n es++[⟨k,v,n+es.length⟩]
 | n,[],k,v=>rfl
 | n,p::es,k,v=>by
   show _::xC (n+1) (es++[(k,v)])=_;rw[oW (n+1) es k v];show _=_::(xC (n+1) es++_);rw[zPG];have:n+1+es.length=n+(es.length+1):=by omega
   rw[this]
omit [Yl] in
theorem qCS (es:List (Value×Value))(i:Nat)(k v:Value)(f:MapEntry->MapEntry)(hf:∀ p,es[i]?=some p->f ⟨p.1,p.2,i⟩=⟨k,v,i⟩):xC 0 (es.set i (k,v))=(xC 0 es).modify i f:=by
 apply zQF;intro j;rw[gI,zS6,gI,zPM,zPH];by_cases hij:i=j
 ·subst hij;rw[if_pos rfl];simp only[if_true]
  cases he:es[i]? with
  | none =>
    have:¬ i < es.length:=fun hl=>by rw[zOX hl] at he;cases he
    rw[if_neg this];rfl
  | some p =>
    have:=(zOZ.1 he).1;rw[if_pos this];simp[hf p he]
 ·rw[if_neg hij];simp only[if_neg hij];cases es[j]? <;> rfl
theorem q1W {x:SV}{k:Nat}{es:List (Value×Value)}(hs:spec P 1000000001=true)(e:smp x h=some (k,es)):gU P x.enc (qC h.l)=some (k,(SpO.map es).enc,es.length,xC 0 es)∧∃ w,slk k h.l=some (.spc w (.map es)):=by
 unfold smp at e;split at e
 ·rename_i k';split at e
  ·rename_i w es' hk;cases e;refine⟨?_,w,hk⟩;simp only[SV.enc,gU,zI hk]
   show cond (spec P 1000000001&&Nat.beq 1000000001 1000000001) (match mapOf (kN es.length (xC 0 es)) with
    | some (c,es')=>some (k,(SO.spc w (SpO.map es)).enc,c,es')
    | none=>none) none=_
   rw[hs,qF9];rfl
  ·cases e
 ·cases e
def zEA (P:Program)(kt:TypeId)(k:Value)(es:List (Value×Value)):Option Bool:=(uH P kt k (xC 0 es)).map Option.isSome
def zDH (P:Program)(kt:TypeId)(t:Ty)(k:Value)(es:List (Value×Value)):Option t.sem:=match uH P kt k (xC 0 es) with
 | some (some i)=>(match es[i]? with
   | some p=>t.ofV p.2
   | none=>none)
 | _=>none
def q7W (ok:Bool)(t:Ty)(x:t.sem)(b:Bool):SV:=cond ok (.tup [q2S t x,.c (.bool b)]) (q2S t x)
theorem qQ5 {ok b:Bool}{t:Ty}{x:t.sem}{v:Value}(e:t.ofV v=some x):qZ7 ok v b=(q7W ok t x b).enc:=by
 unfold qZ7 q7W
 cases ok with
 | true=>simp[sH e,SV.enc,qB]
 | false=>exact sH e
omit [Yl] in
theorem qUC {ok b:Bool}{t:Ty}{x:t.sem}:(q7W ok t x b).ok h:=by
 unfold q7W
 cases ok with
 | true=>simp only[cond_true,SV.ok,okL,and_true];exact qB7 t x
 | false=>exact qB7 t x
def qMP (P:Program)(t:TypeId)(m kx:SV)(ok:Bool)(h:SH)(K:SV->zFC R):zFC R:=match P.underlying t,smp m h,bF kx with
 | some (.map kt et),some (_,es),some kv=>(match qC3 P 8 et,uF P et with
   | some vt,some z=>(match vt.ofV z with
     | some z0=>cond (spec P 1000000001&&zW z) (.bind (zEA P kt kv es) fun b=>.ite b (.bind (zDH P kt vt kv es) fun x=>K (q7W ok vt x true)) (K (q7W ok vt z0 false))) .fail
     | none=>.fail)
   | _,_=>.fail)
 | _,_,_=>.fail
theorem qS9 {t:TypeId}{m kx:SV}{ok:Bool}{K:SV->zFC R}(e:(qMP P t m kx ok h K).run=some r):∃ v,kQ P t m.enc kx.enc ok (qC h.l)=some v.enc∧v.ok h∧(K v).run=some r:=by
 unfold qMP at e;split at e
 case h_2=>cases e
 rename_i kt et k es kv hu hm hk;split at e
 case h_2=>cases e
 rename_i vt z hvt hz;split at e
 case h_2=>cases e
 rename_i z0 hz0;obtain⟨c,e1⟩:=qE e;rw[zOT] at c;obtain⟨b,hb,e2⟩:=run_bind e1;obtain⟨h1,w,h2⟩:=q1W c.1 hm
 have pre:kQ P t m.enc kx.enc ok (qC h.l)=(match uH P kt kv (xC 0 es) with
  | some (some i)=>(match (xC 0 es)[i]? with
    | some e=>some (qZ7 ok e.val true)
    | none=>none)
  | some none=>some (qZ7 ok z false)
  | none=>none):=by
  unfold kQ;rw[hu,h1,wM hk];simp only[hz,c.2,cond_true];rfl
 rw[pre];unfold zEA at hb
 cases hf:uH P kt kv (xC 0 es) with
 | none=>rw[hf] at hb;cases hb
 | some o =>
   rw[hf] at hb
   cases o with
   | none =>
     cases hb;refine⟨_,by simp only[qQ5 hz0],qUC,e2⟩
   | some i =>
     cases hb;obtain⟨x,hx,e3⟩:=run_bind (show (zFC.bind (zDH P kt vt kv es) fun x=>K (q7W ok vt x true)).run=some r from e2);unfold zDH at hx;rw[hf] at hx;simp only at hx;split at hx
     ·rename_i p hp;refine⟨_,?_,qUC,e3⟩;simp only[gI,hp,zO7,qQ5 hx]
     ·cases hx
def zEP (P:Program)(kt:TypeId)(k v:Value)(es:List (Value×Value)):Option (List (Value×Value)):=match uH P kt k (xC 0 es) with
 | some (some i)=>(match es[i]? with
   | some p=>cond (Instr.sameBits 10000 p.1 k) (some (es.set i (k,v))) none
   | none=>none)
 | some none=>some (es++[(k,v)])
 | none=>none
def rF (P:Program)(t:TypeId)(m kx x:SV)(h:SH)(K:SV->SH->zFC R):zFC R:=match P.underlying t,smp m h,bF kx,bF x with
 | some (.map kt _),some (k,es),some kv,some xv=>cond (spec P 1000000001&&zB xv) (.bind (zEP P kt kv xv es) fun es'=>K (.tup []) (h.put k fun v=>.spc v (.map es'))) .fail
 | _,_,_,_=>.fail
theorem bJ {k:Nat}{es es':List (Value×Value)}{w:Nat}(ho:OkH P h)(hk:slk k h.l=some (.spc w (.map es))):Keep h (h.put k fun v=>.spc v (.map es'))∧OkH P (h.put k fun v=>.spc v (.map es')) ∧
 qC (h.put k fun v=>.spc v (.map es')).l=xN k { (SpO.map es).enc with cs:=kN es'.length (xC 0 es') } (qC h.l):=by
 have:=vU (f:=fun v=>.spc v (.map es')) ho hk rfl;exact⟨this.1,this.2,xU k _ _⟩
theorem qG8 {t:TypeId}{m kx x:SV}{K:SV->SH->zFC R}(ho:OkH P h)(e:(rF P t m kx x h K).run=some r) :
 ∃ h',j4 P t m.enc kx.enc x.enc (qC h.l)=some (qC h'.l)∧Keep h h'∧OkH P h'∧(K (.tup []) h').run=some r:=by
 unfold rF at e;split at e
 case h_2=>cases e
 rename_i kt et k es kv xv hu hm hkv hxv;obtain⟨c,e1⟩:=qE e;rw[zOT] at c;obtain⟨es',hs,e2⟩:=run_bind e1;obtain⟨h1,w,h2⟩:=q1W c.1 hm;obtain⟨p1,p2,p3⟩:=bJ (es':=es') ho h2;refine⟨_,?_,p1,p2,e2⟩;unfold j4;rw[hu,h1,wM hkv,wM hxv,p3];simp only[c.2,cond_true];unfold zEP at hs
 cases hf:uH P kt kv (xC 0 es) with
 | none=>rw[hf] at hs;cases hs
 | some o =>
   rw[hf] at hs
   cases o with
   | none =>
     cases hs;simp only[oW,zPC,zPG,zSH,zPH]
   | some i =>
     simp only at hs ⊢;split at hs
     ·rename_i p hp
      cases hb:Instr.sameBits 10000 p.1 kv with
      | false=>rw[hb] at hs;cases hs
      | true =>
        rw[hb] at hs;cases hs;simp only[gI,hp,zO7,hb,cond_true];rw[qCS es i kv xv (fun e=>{ e with key:=kv,val:=xv }) (fun _ _=>rfl),zQM]
     ·cases hs
def zEF (P:Program)(kt:TypeId)(t:Ty)(k z:Value)(es:List (Value×Value)):Option (List (Value×Value)×Nat×t.sem):=match uH P kt k (xC 0 es) with
 | some (some i)=>(match es[i]? with
   | some p=>cond (Instr.sameBits 10000 p.1 k&&q82 i (uH P kt k (xC 0 (es.set i (k,p.2))))) (match t.ofV p.2 with
     | some x=>some (es.set i (k,p.2),i,x)
     | none=>none) none
   | none=>none)
 | some none=>cond (q82 es.length (uH P kt k (xC 0 (es++[(k,z)])))) (match t.ofV z with
   | some x=>some (es++[(k,z)],es.length,x)
   | none=>none) none
 | none=>none
def qDB (P:Program)(t:TypeId)(m kx:SV)(h:SH)(K:SV->SH->zFC R):zFC R:=match P.underlying t,smp m h,bF kx with
 | some (.map kt et),some (k,es),some kv=>(match qC3 P 8 et,uF P et with
   | some vt,some z=>cond (spec P 1000000001&&zW z) (.bind (zEF P kt vt kv z es) fun q=>K (.tup [q2S vt q.2.2,.d (.int .i64) (q.2.1:Int)]) (h.put k fun v=>.spc v (.map q.1))) .fail
   | _,_=>.fail)
 | _,_,_=>.fail
theorem qIR {t:TypeId}{m kx:SV}{K:SV->SH->zFC R}(ho:OkH P h)(e:(qDB P t m kx h K).run=some r) :
 ∃ v h',kK P t m.enc kx.enc (qC h.l)=some (v.enc,qC h'.l)∧Post P h h' v∧(K v h').run=some r:=by
 unfold qDB at e;split at e
 case h_2=>cases e
 rename_i kt et k es kv hu hm hkv;split at e
 case h_2=>cases e
 rename_i vt z hvt hz;obtain⟨c,e1⟩:=qE e;rw[zOT] at c;obtain⟨q,hs,e2⟩:=run_bind e1;obtain⟨h1,w,h2⟩:=q1W c.1 hm;obtain⟨p1,p2,p3⟩:=bJ (es':=q.1) ho h2;refine⟨_,_,?_,⟨p1,p2,?_⟩,e2⟩
 ·unfold kK;rw[hu,h1,wM hkv,p3];unfold zEF at hs
  cases hf:uH P kt kv (xC 0 es) with
  | none=>rw[hf] at hs;cases hs
  | some o =>
    rw[hf] at hs
    cases o with
    | none =>
      simp only at hs ⊢;obtain⟨hat,hs⟩:=yN hs;split at hs
      ·rename_i x hx;cases hs
       have hat':q82 (xC 0 es).length (uH P kt kv (xC 0 es++[⟨kv,z,es.length⟩]))=true:=by
        rw[oW,zPH] at hat;rw[qCO];exact hat
       simp only[hf,hz,c.2,hat',zPQ,cond_true,oW,zPC,zPG,zSH,zPH,SV.enc,qB,sH hx,Ty.fv,fvv]
      ·cases hs
    | some i =>
      simp only at hs ⊢;split at hs
      ·rename_i p hp;obtain⟨hb',hs⟩:=yN hs;rw[zOT] at hb';obtain⟨hb,hat⟩:=hb'
       ·split at hs
        ·rename_i x hx;cases hs;rw[qCS es i kv p.2 (fun e=>{ e with key:=kv }) (fun p' hp'=>by rw[hp] at hp';cases hp';rfl)] at hat;simp only[hf,gI,hp,zO7,hb,hat,zPQ,cond_true,SV.enc,qB,sH hx,Ty.fv,fvv,zPH];rw[qCS es i kv p.2 (fun e=>{ e with key:=kv }) (fun p' hp'=>by rw[hp] at hp';cases hp';rfl),zQM]
        ·cases hs
      ·cases hs
 ·simp only[SV.ok,okL,and_true];exact qB7 _ _
def qRL (P:Program)(k:Nat)(h:SH)(K:SV->SH->zFC R):zFC R:=cond (spec P 1000000001) (K (.mp k) (h.new k fun v=>.spc v (.map []))) .fail
theorem qOK {k:Nat}{K:SV->SH->zFC R}(ho:OkH P h)(e:(qRL P k h K).run=some r):∃ v h',dD P k (qC h.l)=some (v.enc,qC h'.l)∧Post P h h' v∧(K v h').run=some r:=by
 obtain⟨c,e1⟩:=qE e;have hp:=xG (k:=k) (f:=fun v=>.spc v (.map [])) ho rfl;refine⟨_,_,?_,⟨hp.1,hp.2,by simp[SV.ok]⟩,e1⟩;unfold dD;rw[c];simp only[cond_true,qDN,SV.enc];rfl
def q5T (P:Program)(ts:Array TypeId)(x:SV)(h:SH):Option SV:=match smp x h with
 | some (_,es)=>cond (spec P 1000000001&&zBS P ts) (some (.d (.int .i64) ((List.length es:Nat):Int))) none
 | none=>none
theorem qZZ {ts:Array TypeId}{x v:SV}(e:q5T P ts x h=some v):qDP P ts x.enc (qC h.l)=some v.enc∧v.ok h:=by
 unfold q5T at e;split at e
 case h_2=>cases e
 rename_i k es hm
 cases hc:(spec P 1000000001&&zBS P ts) with
 | false=>rw[hc] at e;cases e
 | true =>
   rw[hc] at e;cases e;rw[zOT] at hc;refine⟨?_,by simp[SV.ok]⟩;unfold smp at hm;split at hm
   case h_2=>cases hm
   rename_i k';split at hm
   case h_2=>cases hm
   rename_i w es' hk;cases hm
   have h1:tQ P (SV.enc (.mp k)) (qC h.l)=some (kN es.length (xC 0 es)):=by
    simp only[SV.enc,tQ,zI hk];show cond (!false&&(spec P 1000000001&&Nat.beq 1000000001 1000000001)) (some (kN es.length (xC 0 es))) none=_;rw[hc.1];rfl
   unfold qDP;rw[h1];simp only[hc.2,cond_true,kI,qCO];have:(3*es.length+1) / 3=es.length:=by omega
   rw[this];simp[SV.enc,Ty.fv,fvv]
omit [Yl] in
theorem qL4 {p:Value->Bool}:∀ {a b:List Value},jG p a=true->jG p b=true->jG p (a++b)=true
 | [],_,_,h=>h
 | x::a,b,h,h2=>by
   rw[zQY,xR,zOT];rw[xR,zOT] at h;exact⟨h.1,qL4 h.2 h2⟩
omit [Yl] in
theorem cK (n:Nat):∀ {t:Ty} {l l':List Value} {x:t.sem},t.vals l=some (x,l')->∃ us,l=us++l'∧jG (xQ (n+1)) us=true
 | .int k,l,l',x,e=>by
   cases l with
   | nil=>cases e
   | cons v l =>
     cases v <;> try (cases e;done)
     rename_i k' y;have e:cond (decide (k'=k)) (some ((y:Int),l)) none=some (x,l'):=e
     cases hk:decide (k'=k) with
     | false=>rw[hk] at e;cases e
     | true =>
       rw[hk] at e;cases e;exact⟨[.int k' x],rfl,rfl⟩
 | .bool,l,l',x,e=>by
   cases l with
   | nil=>cases e
   | cons v l =>
     cases v <;> try (cases e;done)
     cases e;exact⟨[.bool x],rfl,rfl⟩
 | .str,l,l',x,e=>by
   cases l with
   | nil=>cases e
   | cons v l =>
     cases v <;> try (cases e;done)
     cases e;exact⟨[.string x],rfl,rfl⟩
 | .unit,l,l',x,e=>by
   have e:some ((),l)=some ((),l'):=by cases l <;> exact e
   cases e;exact⟨[],rfl,rfl⟩
 | .list _ _,l,l',x,e=>by cases l <;> cases e
 | .raw,l,l',x,e=>by cases l <;> cases e
 | .ol _ _,l,l',x,e=>by cases l <;> cases e
 | .nif,l,l',x,e=>by cases l <;> cases e
 | .pair a b,l,l',x,e=>by
   have e:(match a.vals l with
    | some (x,l1)=>(match b.vals l1 with
      | some (y,l2)=>some ((x,y),l2)
      | none=>none)
    | none=>none)=some (x,l'):=by cases l <;> exact e
   split at e
   ·rename_i x1 l1 h1;split at e
    ·rename_i y l2 h2;cases e;obtain⟨us,rfl,u1⟩:=cK n h1;obtain⟨ws,rfl,w1⟩:=cK n h2;exact⟨us++ws,by rw[zPT],qL4 u1 w1⟩
    ·cases e
   ·cases e
omit [Yl] in
theorem qW3 {t:Ty}{v:Value}{x:t.sem}(e:t.ofV v=some x):zW v=true:=by
 unfold Ty.ofV at e
 cases ht:t.one with
 | true =>
   rw[ht] at e;simp only[cond_true] at e;split at e
   ·rename_i y hy;obtain⟨us,h1,h2⟩:=cK 2 hy;rw[zQT] at h1;subst h1;rw[xR,zOT] at h2;exact h2.1
   ·cases e
 | false =>
   rw[ht] at e;simp only[cond_false] at e;split at e
   ·rename_i a;split at e
    ·rename_i y hy;obtain⟨us,h1,h2⟩:=cK 1 hy;rw[zQT] at h1;show jG (xQ 2) a.toList=true;rw[h1];exact h2
    ·cases e
   ·cases e
omit [Yl] in
theorem qEL:∀ (n:Nat) (es:List (Value×Value)) (i:Nat),(xC n es).find? (·.born==n+i)=(es[i]?).map fun p=>(⟨p.1,p.2,n+i⟩:MapEntry)
 | n,[],i=>by simp[xC]
 | n,p::es,0=>by simp[xC]
 | n,p::es,i+1=>by
   have h:((⟨p.1,p.2,n⟩:MapEntry).born==n+(i+1))=false:=by simp
   have ih:=qEL (n+1) es i;have e:n+1+i=n+(i+1):=by omega
   rw[e] at ih;show List.find? (fun x=>x.born==n+(i+1)) ((⟨p.1,p.2,n⟩:MapEntry)::xC (n+1) es)=_;rw[List.find?_cons,h,ih];simp
def q4Q (kt vt:Ty)(i:Nat)(es:List (Value×Value)):Option (kt.sem×vt.sem):=match es[i]? with
 | some p=>(match kt.ofV p.1,vt.ofV p.2 with
   | some x,some y=>some (x,y)
   | _,_=>none)
 | none=>none
def qYO (P:Program)(x:SV)(h:SH)(K:SV->SH->zFC R):zFC R:=match x with
 | .ref k off w=>(match slk k h.l with
   | some (.spc _ (.mit t j since (last+1) _))=>(match P.underlying t,smp (.mp j) h with
     | some (.map kt vt),some (_,es)=>(match qC3 P 8 kt,qC3 P 8 vt with
       | some kT,some vT=>cond (spec P 1000000001&&(spec P 1000000002&&(Nat.beq w 4&&(Nat.beq off 0&&Nat.beq (List.length es) since)))) (.bind (q4Q kT vT last es) fun p=>K (.tup [q2S kT p.1,q2S vT p.2]) h) .fail
       | _,_=>.fail)
     | _,_=>.fail)
   | _=>.fail)
 | _=>.fail
theorem qVQ {x:SV}{K:SV->SH->zFC R}(ho:OkH P h)(e:(qYO P x h K).run=some r):∃ v,qIO P x.enc (qC h.l)=some v.enc∧v.ok h∧(K v h).run=some r:=by
 unfold qYO at e;split at e
 case h_2=>cases e
 rename_i k off w;split at e
 case h_2=>cases e
 rename_i w0 t j since last seen hk;split at e
 case h_2=>cases e
 rename_i kt vt j2 es hu hs;split at e
 case h_2=>cases e
 rename_i kT vT hkT hvT;obtain⟨c,e1⟩:=qE e;simp only[zOT] at c;obtain⟨c1,c2,c3,c4,c5⟩:=c;obtain⟨q,hq,e2⟩:=run_bind e1;obtain⟨h1,_⟩:=q1W c1 hs;unfold q4Q at hq;split at hq
 case h_2=>cases hq
 rename_i p hp;split at hq
 case h_2=>cases hq
 rename_i x1 y1 hx1 hy1;cases hq;refine⟨_,?_,?_,e2⟩
 ·have e3:=zOU c3;have e4:=zOU c4;subst e3 e4;simp only[SV.enc,qIO,zI hk]
  show cond (spec P 1000000002&&(Nat.beq 1000000002 1000000002&&(Nat.beq 4 4&&Nat.beq 0 0))) (match gU P (.mp j) (qC h.l) with
   | some (_,_,c,es)=>cond (Nat.beq c (since:Int).toNat&&Nat.ble 1 ((last+1:Nat):Int).toNat) (match es.find? (·.born==((last+1:Nat):Int).toNat - 1) with
     | some e=>cond (zW e.key) (some (PV.tup [ofC e.key,ofC e.val])) none
     | none=>none) none
   | none=>none) none=_
  have h1:gU P (.mp j) (qC h.l)=some (j2,(SpO.map es).enc,es.length,xC 0 es):=h1;rw[h1,c2];have hl:((last+1:Nat):Int).toNat=last+1:=rfl;have hsi:((since:Nat):Int).toNat=since:=rfl;have hf:=qEL 0 es last;simp only[zPH] at hf;rw[hl,hsi];simp only[Nat.add_sub_cancel,hf,hp,c5,zO7];rw[show Nat.ble 1 (last+1)=true from zPD (by omega),show (Nat.beq 1000000002 1000000002)=true from rfl,show (Nat.beq 4 4)=true from rfl,show (Nat.beq 0 0)=true from rfl];simp only[zPQ,cond_true,qW3 hx1,sH hx1,sH hy1,qB]
 ·simp only[SV.ok,okL];exact⟨qB7 _ _,qB7 _ _,trivial⟩
end
end Go.Sv
namespace Go.Sv
open Go.Idl
variable {a:Int}{b:Bool}{env:List SV}{k:IntKind}{o:Oper}{op:BinOp}{ph:PHp}{s:ByteArray}{t t2 ty:TypeId}{ts:Array TypeId}{x y:SV}
noncomputable section
variable [Gc]
variable [Yl]
variable {P:Program}{h:SH}{R:Type}{r:R}
def q7K (k:IntKind):PV->Option Int
 | .f (.v (.int k' x))=>cond (decide (k'=k)) (some x) none
 | _=>none
def q6H:PV->Option Bool
 | .f (.v (.bool x))=>some x
 | _=>none
def q7C:PV->Option ByteArray
 | .f (.v (.string x))=>some x
 | _=>none
def Ty.zLS:(t:Ty)->PV->Option t.sem
 | .int k,p=>q7K k p
 | .bool,p=>q6H p
 | .str,p=>q7C p
 | .raw,_=>none
 | .ol _ _,_=>none
 | .nif,_=>none
 | .unit,_=>none
 | .list _ _,_=>none
 | .pair _ _,_=>none
omit [Yl] in
theorem q8A:∀ {t:Ty} {p:PV} {x:t.sem},t.zLS p=some x->p=.f (t.fv x)
 | .int k,p,x,e=>by
   have e1:q7K k p=some x:=e;clear e;unfold q7K at e1;split at e1
   ·rename_i k' y;have e:=e1;clear e1
    cases hk:decide (k'=k) with
    | false=>rw[hk] at e;cases e
    | true =>
      rw[hk] at e;cases e;have:k'=k:=by simpa using hk
      subst this;rfl
   ·cases e1
 | .bool,p,x,e=>by
   have e1:q6H p=some x:=e;clear e;unfold q6H at e1;split at e1
   ·cases e1;rfl
   ·cases e1
 | .str,p,x,e=>by
   have e1:q7C p=some x:=e;clear e;unfold q7C at e1;split at e1
   ·cases e1;rfl
   ·cases e1
 | .unit,_,_,e=>by cases e
 | .list _ _,_,_,e=>by cases e
 | .pair _ _,_,_,e=>by cases e
 | .raw,_,_,e=>by cases e
 | .ol _ _,_,_,e=>by cases e
 | .nif,_,_,e=>by cases e
def Ty.zI6 (t:Ty)(o:Option PV):Option t.sem:=o.bind t.zLS
theorem qRR {t:Ty}{o:Option PV}{x:t.sem}(e:t.zI6 o=some x):o=some (SV.d t x).enc:=by
 obtain⟨p,h1,h2⟩:=zQX.1 e;rw[h1,q8A h2];simp[SV.enc]
def sint (op:BinOp)(k:IntKind)(a b:Int)(K:SV->zFC R)(F:zFC R):zFC R:=match op with
 | .lss=>K (.d .bool (decide (a < b)))
 | .leq=>K (.d .bool (decide (a<=b)))
 | .gtr=>K (.d .bool (decide (b < a)))
 | .geq=>K (.d .bool (decide (b<=a)))
 | .eql=>K (.d .bool (a==b))
 | .neq=>K (.d .bool (a != b))
 | .add=>K (.d (.int k) (k.wrap (a+b)))
 | .sub=>K (.d (.int k) (k.wrap (a - b)))
 | .mul=>K (.d (.int k) (k.wrap (a*b)))
 | .quo=>.bind (q9A k a b) fun c=>K (.d (.int k) c)
 | .rem=>.bind (zCI a b) fun c=>K (.d (.int k) c)
 | _=>F
omit [Yl] in
theorem q5Q {x y:PV}{a b:Value}(hx:pl x=some a)(hy:pl y=some b):wY P op t t2 x y ph=wY P op t t2 (fvv a) (fvv b) []:=by
 unfold wY;rw[hx,hy];rfl
def qTI (P:Program)(op:BinOp)(t t2 ty:TypeId)(x y:SV)(K:SV->zFC R):zFC R:=match bF x,bF y,qC3 P 8 ty with
 | some a,some b,some u=>.bind (u.zI6 (wY P op t t2 (fvv a) (fvv b) [])) fun z=>K (.d u z)
 | _,_,_=>.fail
def zDV (P:Program)(t:TypeId)(x y:SV)(h:SH):Option Bool:=match y with
 | .c (.slice none _ _)=>cond (zN P t).isSome (match x with
   | .own k g n=>(match slk k h.l with
     | some (.list _ gr g' _ _ _)=>cond (Nat.beq g g') (some (gr&&Nat.beq n 0)) none
     | _=>none)
   | .sl k g n _ _=>(match slk k h.l with
     | some (.list _ gr g' _ _ _)=>cond (Nat.beq g g') (some (gr&&Nat.beq n 0)) none
     | _=>none)
   | _=>none) none
 | .c .nilFunc=>cond (qV8 P t) (match x with
   | .fn _ _ _=>some false
   | _=>none) none
 | _=>none
theorem qXK (ho:OkH P h)(hx:x.ok h)(e:zDV P t x y h=some b):qFJ P t x.enc y.enc (qC h.l)=some b∧pl x.enc=none:=by
 unfold zDV at e;split at e
 ·rename_i n c
  cases h1:(zN P t).isSome with
  | false=>rw[h1] at e;cases e
  | true =>
    rw[h1] at e;simp only[cond_true] at e;split at e
    ·rename_i k g n;split at e
     ·rename_i el gr g' w u xs hk
      cases h2:Nat.beq g g' with
      | false=>rw[h2] at e;cases e
      | true =>
        rw[h2] at e;cases e;have hg:g=g':=zOU h2;subst hg;simp only[SV.ok] at hx;have hn:=hx.2 _ _ _ _ _ hk;have hl:=ho.list _ _ _ _ _ _ _ hk;refine⟨?_,by simp[SV.enc,pl]⟩;simp only[SV.enc,fvv,qFJ,h1,cond_true,isNil,zI hk];rw[show (SO.list el gr g w u xs).enc.el=el from rfl,hl.2.1];simp only[qU,hn,aM,cond_true];rfl
     ·cases e
    ·rename_i k g n o m;split at e
     ·rename_i el gr g' w u xs hk
      cases h2:Nat.beq g g' with
      | false=>rw[h2] at e;cases e
      | true =>
        rw[h2] at e;cases e;have hg:g=g':=zOU h2;subst hg;simp only[SV.ok] at hx;have hn:=hx.1.2 _ _ _ _ _ hk;have hl:=ho.list _ _ _ _ _ _ _ hk;refine⟨?_,by simp[SV.enc,pl]⟩;simp only[SV.enc,fvv,qFJ,h1,cond_true,isNil,zI hk];rw[show (SO.list el gr g w u xs).enc.el=el from rfl,hl.2.1];simp only[qU,hn,aM,cond_true];rfl
     ·cases e
    ·cases e
 ·cases h1:qV8 P t with
  | false=>rw[h1] at e;cases e
  | true =>
    rw[h1] at e;simp only[cond_true] at e;split at e
    ·cases e;exact⟨by simp[SV.enc,fvv,qFJ,h1,qP2],by simp[SV.enc,pl]⟩
    ·cases e
 ·cases e
def q6Z (P:Program)(t:TypeId)(x y:SV):Option Bool:=match x,y with
 | .d (.ol _ _) xs,.c (.slice none 0 0)=>cond (zN P t).isSome (some (List.isEmpty xs)) none
 | _,_=>none
theorem qQB (e:q6Z P t x y=some b):wY P .eql t t2 x.enc y.enc ph=some (fvv (.bool b))∧wY P .neq t t2 x.enc y.enc ph=some (fvv (.bool !b)):=by
 unfold q6Z at e;split at e
 ·rename_i el k xs
  cases h1:(zN P t).isSome with
  | false=>rw[h1] at e;cases e
  | true =>
    rw[h1] at e;cases e
    cases xs with
    | nil =>
      have hn:qFJ P t (fvv (.slice none 0 0)) (fvv (.slice none 0 0)) ph=some true:=by simp only[qFJ,fvv,h1,cond_true,isNil]
      have hv:∀ H,VR P (fun _=>True) H (own (fun _=>0) ph) (fvv (.slice none 0 0)) (.slice none 0 0):=fun H=>.f (.v rfl rfl)
      constructor
      ·have:=(qHC (op:=.eql) (o:=cop (.binOp .eql t (.const (.slice none 0 0)) (.const (.slice none 0 0)) t2)) (env:=[]) (hv H00) (hv H00) hn).1;simp only[SV.enc,Ty.fv,fvo];show wY P .eql t t2 (fvv (.slice none 0 0)) (fvv (.slice none 0 0)) ph=_;unfold wY;rw[show pl (fvv (.slice none 0 0))=some (.slice none 0 0) from rfl];simp only[this];rfl
      ·have:=(qHC (op:=.neq) (o:=cop (.binOp .neq t (.const (.slice none 0 0)) (.const (.slice none 0 0)) t2)) (env:=[]) (hv H00) (hv H00) hn).2;simp only[SV.enc,Ty.fv,fvo];show wY P .neq t t2 (fvv (.slice none 0 0)) (fvv (.slice none 0 0)) ph=_;unfold wY;rw[show pl (fvv (.slice none 0 0))=some (.slice none 0 0) from rfl];simp only[this];rfl
    | cons x xs =>
      have hn:qFJ P t (.f (fvo el k (x::xs))) (fvv (.slice none 0 0)) ph=some false:=by
       simp only[qFJ,fvv,h1,cond_true,fvo,zPO,zQY,isNil]
      constructor
      ·simp only[SV.enc,Ty.fv];show gF P t (.f (fvo el k (x::xs))) (fvv (.slice none 0 0)) ph _=_;unfold gF;rw[hn];rfl
      ·simp only[SV.enc,Ty.fv];show gF P t (.f (fvo el k (x::xs))) (fvv (.slice none 0 0)) ph _=_;unfold gF;rw[hn];rfl
 ·cases e
def q7J (P:Program)(t:TypeId)(x y:SV):Option Bool:=match x,y with
 | .d (.list _ u) xs,.c (.slice none 0 0)=>cond ((zN P t).isSome&&Nat.blt 0 u.w) (some (List.isEmpty xs)) none
 | _,_=>none
theorem qAF (e:q7J P t x y=some b) :
 (b=true->wY P .eql t t2 x.enc y.enc ph=some .bq∧wY P .neq t t2 x.enc y.enc ph=some .bq)∧(b=false->wY P .eql t t2 x.enc y.enc ph=some (fvv (.bool false))∧wY P .neq t t2 x.enc y.enc ph=some (fvv (.bool true))):=by
 unfold q7J at e;split at e
 case h_2=>cases e
 rename_i el u xs
 cases h1:((zN P t).isSome&&Nat.blt 0 u.w) with
 | false=>rw[h1] at e;cases e
 | true =>
   rw[h1] at e;cases e;rw[zOT] at h1;obtain⟨h1,h2⟩:=h1;have h2:0 < u.w:=zO2 h2
   cases xs with
   | nil =>
     have hq:qSP P t (.f (.l el 0 [])) (fvv (.slice none 0 0))=some .bq:=by simp only[qSP,fvv,h1,cond_true]
     have hn:qFJ P t (.f (.l el 0 [])) (fvv (.slice none 0 0)) ph=none:=by simp only[qFJ,fvv,h1,cond_true,isNil]
     refine⟨fun _=>?_,fun h=>(by cases h)⟩;simp only[SV.enc,Ty.fv,List.flatMap_nil,zSH];constructor
     ·show gF P t (.f (.l el 0 [])) (fvv (.slice none 0 0)) ph _=_;unfold gF;rw[hn];exact hq
     ·show gF P t (.f (.l el 0 [])) (fvv (.slice none 0 0)) ph _=_;unfold gF;rw[hn];exact hq
   | cons x xs =>
     refine⟨fun h=>(by cases h),fun _=>?_⟩
     obtain⟨c,cs,hcs⟩:∃ c cs,List.flatMap u.cells (x::xs)=c::cs:=by
      cases hf:List.flatMap u.cells (x::xs) with
      | nil =>
        have:=congrArg List.length hf;rw[zR,zPG,zRM] at this;simp at this;omega
      | cons c cs=>exact⟨c,cs,rfl⟩
     have hn:qFJ P t (.f (.l el (xs.length+1) (c::cs))) (fvv (.slice none 0 0)) ph=some false:=by simp only[qFJ,fvv,h1,cond_true,isNil]
     simp only[SV.enc,Ty.fv,hcs,zPG];constructor
     ·show gF P t (.f (.l el (xs.length+1) (c::cs))) (fvv (.slice none 0 0)) ph _=_;unfold gF;rw[hn]
     ·show gF P t (.f (.l el (xs.length+1) (c::cs))) (fvv (.slice none 0 0)) ph _=_;unfold gF;rw[hn];rfl
def q8D (P:Program)(op:BinOp)(t t2 ty:TypeId)(x y:SV)(h:SH)(K:SV->zFC R):zFC R:=match zDV P t x y h,op with
 | some b,.eql=>K (.d .bool b)
 | some b,.neq=>K (.d .bool (!b))
 | _,_=>qTI P op t t2 ty x y K
def q74 (P:Program)(op:BinOp)(t t2 ty:TypeId)(x y:SV)(h:SH)(K:SV->zFC R):zFC R:=match q7J P t x y,op with
 | some b,.eql=>.ite b (K .bq) (K (.d .bool false))
 | some b,.neq=>.ite b (K .bq) (K (.d .bool true))
 | _,_=>q8D P op t t2 ty x y h K
def zDL (P:Program)(op:BinOp)(t t2 ty:TypeId)(x y:SV)(h:SH)(K:SV->zFC R):zFC R:=match asI x,asI y with
 | some (k,a),some (k',b)=>cond (decide (k=k')) (sint op k a b K (qTI P op t t2 ty x y K)) (qTI P op t t2 ty x y K)
 | _,_=>(match asS x,asS y with
   | some a,some b=>zEJ op a b K (qTI P op t t2 ty x y K)
   | _,_=>(match q6Z P t x y,op with
     | some b,.eql=>K (.d .bool b)
     | some b,.neq=>K (.d .bool (!b))
     | _,_=>q74 P op t t2 ty x y h K))
theorem qAG {K:SV->zFC R}(e:(qTI P op t t2 ty x y K).run=some r):∃ v,wY P op t t2 x.enc y.enc (qC h.l)=some v.enc∧v.ok h∧(K v).run=some r:=by
 unfold qTI at e;split at e
 ·rename_i a b u ha hb hu;obtain⟨z,hz,e1⟩:=run_bind e;refine⟨_,?_,by simp[SV.ok],e1⟩;rw[q5Q (wM ha) (wM hb)];exact qRR hz
 ·cases e
theorem q20 {K:SV->zFC R}(ho:OkH P h)(hx:x.ok h)(e:(q8D P op t t2 ty x y h K).run=some r):∃ v,wY P op t t2 x.enc y.enc (qC h.l)=some v.enc∧v.ok h∧(K v).run=some r:=by
 unfold q8D at e;split at e
 ·rename_i b hs;obtain⟨h1,h2⟩:=qXK ho hx hs;refine⟨_,?_,by simp[SV.ok],e⟩;unfold wY;rw[h2];simp[gF,h1,SV.enc,Ty.fv,fvv]
 ·rename_i b hs;obtain⟨h1,h2⟩:=qXK ho hx hs;refine⟨_,?_,by simp[SV.ok],e⟩;unfold wY;rw[h2];simp[gF,h1,SV.enc,Ty.fv,fvv]
 ·exact qAG e
theorem q21 {K:SV->zFC R}(ho:OkH P h)(hx:x.ok h)(e:(q74 P op t t2 ty x y h K).run=some r):∃ v,wY P op t t2 x.enc y.enc (qC h.l)=some v.enc∧v.ok h∧(K v).run=some r:=by
 unfold q74 at e;split at e
 ·rename_i b hs
  rcases run_ite e with ⟨z,e1⟩ | ⟨z,e1⟩
  ·exact⟨.bq,by rw[((qAF hs).1 z).1];simp[SV.enc],by simp[SV.ok],e1⟩
  ·exact⟨.d .bool false,by rw[((qAF hs).2 z).1];simp[SV.enc,Ty.fv,fvv],by simp[SV.ok],e1⟩
 ·rename_i b hs
  rcases run_ite e with ⟨z,e1⟩ | ⟨z,e1⟩
  ·exact⟨.bq,by rw[((qAF hs).1 z).2];simp[SV.enc],by simp[SV.ok],e1⟩
  ·exact⟨.d .bool true,by rw[((qAF hs).2 z).2];simp[SV.enc,Ty.fv,fvv],by simp[SV.ok],e1⟩
 ·exact q20 ho hx e
theorem q6C {K:SV->zFC R}(ho:OkH P h)(hx:x.ok h)(e:(zDL P op t t2 ty x y h K).run=some r):∃ v,wY P op t t2 x.enc y.enc (qC h.l)=some v.enc∧v.ok h∧(K v).run=some r:=by
 unfold zDL at e;split at e
 ·rename_i k a k' b ha hb
  cases hk:decide (k=k') with
  | false=>rw[hk] at e;exact qAG e
  | true =>
    rw[hk] at e;have hkk:k=k':=by simpa using hk
    subst hkk;simp only[cond_true] at e;have ha':=yC ha;have hb':=yC hb
    have fin:∀ {v:SV},wY P op t t2 (fvv (.int k a)) (fvv (.int k b)) (qC h.l)=some v.enc->v.ok h->(K v).run=some r->∃ v,wY P op t t2 x.enc y.enc (qC h.l)=some v.enc∧v.ok h∧(K v).run=some r:=fun h1 h2 h3=>⟨_,by rw[ha',hb'];exact h1,h2,h3⟩
    unfold sint at e;split at e
    ·exact fin (v:=.d .bool (decide (a < b))) zB2 (by simp[SV.ok]) e
    ·exact fin (v:=.d .bool (decide (a<=b))) zAI (by simp[SV.ok]) e
    ·exact fin (v:=.d .bool (decide (b < a))) zB6 (by simp[SV.ok]) e
    ·exact fin (v:=.d .bool (decide (b<=a))) zA8 (by simp[SV.ok]) e
    ·exact fin (v:=.d .bool (a==b)) zBK (by simp[SV.ok]) e
    ·exact fin (v:=.d .bool (a != b)) q91 (by simp[SV.ok]) e
    ·exact fin (v:=.d (.int k) (k.wrap (a+b))) zAN (by simp[SV.ok]) e
    ·exact fin (v:=.d (.int k) (k.wrap (a - b))) zAO (by simp[SV.ok]) e
    ·exact fin (v:=.d (.int k) (k.wrap (a*b))) zBE (by simp[SV.ok]) e
    ·obtain⟨c,hc,e1⟩:=run_bind e;exact fin (v:=.d (.int k) c) (zBY hc) (by simp[SV.ok]) e1
    ·obtain⟨c,hc,e1⟩:=run_bind e;exact fin (v:=.d (.int k) c) (q98 hc) (by simp[SV.ok]) e1
    ·exact qAG e
 ·split at e
  ·rename_i a b ha hb;have ha':=fV ha;have hb':=fV hb;unfold zEJ at e;split at e
   ·rcases run_ite e with ⟨z,e1⟩ | ⟨z,e1⟩
    ·exact⟨.d .str (a++b),by rw[ha',hb',q5U (zO2 z)];simp[SV.enc,Ty.fv,fvv],by simp[SV.ok],e1⟩
    ·cases e1
   ·exact⟨.d .bool (a.toList==b.toList),by rw[ha',hb',q7U];simp[SV.enc,Ty.fv,fvv],by simp[SV.ok],e⟩
   ·exact⟨.d .bool (!(a.toList==b.toList)),by rw[ha',hb',q6F];simp[SV.enc,Ty.fv,fvv],by simp[SV.ok],e⟩
   ·exact qAG e
  split at e
  ·rename_i b hs;exact⟨_,by rw[(qQB hs).1];simp[SV.enc,Ty.fv,fvv],by simp[SV.ok],e⟩
  ·rename_i b hs;exact⟨_,by rw[(qQB hs).2];simp[SV.enc,Ty.fv,fvv],by simp[SV.ok],e⟩
  exact q21 ho hx e
def qVU (P:Program)(mk:Operand->Op)(ty:TypeId)(x:SV)(K:SV->zFC R):zFC R:=match qE6 x,qC3 P 8 ty with
 | some a,some u=>.bind (u.zI6 (bG P mk (fvv a))) fun z=>K (.d u z)
 | _,_=>.fail
theorem qP7 {mk:Operand->Op}{K:SV->zFC R}(e:(qVU P mk ty x K).run=some r):∃ v,bG P mk x.enc=some v.enc∧v.ok h∧(K v).run=some r∧∃ a,qE6 x=some a:=by
 unfold qVU at e;split at e
 ·rename_i a u ha hu;obtain⟨z,hz,e1⟩:=run_bind e;exact⟨_,by rw[sI ha];exact qRR hz,by simp[SV.ok],e1,a,ha⟩
 ·cases e
def sun (P:Program)(op:UnOp)(t ty:TypeId)(x:SV)(K:SV->zFC R):zFC R:=match op,asI x,asB x with
 | .neg,some (k,a),_=>K (.d (.int k) (k.wrap (0 - a)))
 | .not,_,some b=>K (.d .bool (!b))
 | _,_,_=>qVU P (fun a=>.unOp op t a) ty x K
omit [Yl] in
theorem q5L {x:Int}:bG P (fun a=>.unOp .neg t a) (fvv (.int k x))=some (fvv (.int k (k.wrap (0 - x)))):=rfl
theorem q97 {op:UnOp}{K:SV->zFC R}(e:(sun P op t ty x K).run=some r):∃ v,bG P (fun a=>.unOp op t a) x.enc=some v.enc∧v.ok h∧(K v).run=some r:=by
 unfold sun at e;split at e
 ·rename_i k a ha;exact⟨_,by rw[yC ha,q5L];simp[SV.enc,Ty.fv,fvv],by simp[SV.ok],e⟩
 ·rename_i b hb;exact⟨_,by rw[sN hb,zAB];simp[SV.enc,Ty.fv,fvv],by simp[SV.ok],e⟩
 ·obtain⟨v,h1,h2,h3,_⟩:=qP7 (h:=h) e;exact⟨v,h1,h2,h3⟩
def eT (env:List SV)(l:Array Operand):List SV:=l.toList.map (kC env)
theorem gV (env:List SV)(l:Array Operand):l.toList.map (qJ (qB env))=qB (eT env l):=by
 unfold eT;rw[zD (l.toList.map (kC env)),zQ5];exact zQI fun x _=>qN env x
omit [Yl] in
theorem fI (ho:okL h env)(l:Array Operand):okL h (eT env l):=zH.2 fun x hx=>by
 obtain⟨q,_,rfl⟩:=zPL.1 hx;exact mV ho _
def smm (lo:Bool)(x y:SV)(K:SV->zFC R):zFC R:=match asI x,asI y with
 | some (k,a),some (k',b)=>cond (decide (k=k')) (K (.d (.int k) (cond lo (cond (decide (b < a)) b a) (cond (decide (a < b)) b a)))) .fail
 | _,_=>.fail
omit [Yl] in
theorem dmin {x y:Operand}{b:Int}{env:Env}(hx:env.val x=.int k a)(hy:env.val y=.int k b) :
 qXT (jK P (cop (.call ⟨.builtin .min,#[x,y],ts⟩) ty) env H00)=some (fvv (.int k (if b < a then b else a))):=by
 have h2:kY env.val (cop (.call ⟨.builtin .min,#[x,y],ts⟩) ty).op.operands.toList=[env.val x,env.val y]:=rfl;unfold jK;rw[h2];simp only[cop,execOp,resolve,List.map_toArray,zPB,zQ6,hx,hy];rfl
omit [Yl] in
theorem dmax {x y:Operand}{b:Int}{env:Env}(hx:env.val x=.int k a)(hy:env.val y=.int k b) :
 qXT (jK P (cop (.call ⟨.builtin .max,#[x,y],ts⟩) ty) env H00)=some (fvv (.int k (if a < b then b else a))):=by
 have h2:kY env.val (cop (.call ⟨.builtin .max,#[x,y],ts⟩) ty).op.operands.toList=[env.val x,env.val y]:=rfl;unfold jK;rw[h2];simp only[cop,execOp,resolve,List.map_toArray,zPB,zQ6,hx,hy];rfl
omit [Yl] in
theorem qY2 {p:Prop}[Decidable p]{α:Type}{x y:α}:cond (decide p) x y=if p then x else y:=by
 by_cases h:p <;> simp[h]
theorem q45 {lo:Bool}{c:Call}{K:SV->zFC R}(hl:eT env c.args=[x,y])(hc:c.callee=.builtin (cond lo .min .max))(e:(smm lo x y K).run=some r) :
 ∃ v,vY P (cond lo .min .max) c [x.enc,y.enc] (qB env) ty (qC h.l)=some (v.enc,qC h.l)∧v.ok h∧(K v).run=some r:=by
 unfold smm at e;split at e
 ·rename_i k a k' b ha hb
  cases hk:decide (k=k') with
  | false=>rw[hk] at e;cases e
  | true =>
    rw[hk] at e;have:k=k':=by simpa using hk
    subst this;have e1:=yC ha;have e2:=yC hb;refine⟨_,?_,by simp[SV.ok],e⟩;obtain⟨cal,args,ts⟩:=c;simp only at hc hl;subst hc;unfold eT at hl
    have hal:∃ p q,args=#[p,q]∧kC env p=x∧kC env q=y:=by
     obtain⟨l⟩:=args
     match l,hl with
     | [p,q],hl=>simp at hl;exact⟨p,q,rfl,hl.1,hl.2⟩
    obtain⟨p,q,rfl,hp,hq⟩:=hal;have vp:(qSZ (qB env)).val p=.int k a:=cZ P (by rw[qN,hp,e1];rfl);have vq:(qSZ (qB env)).val q=.int k b:=cZ P (by rw[qN,hq,e2];rfl);unfold vY;rw[e1,e2];have hpl:plL [fvv (.int k a),fvv (.int k b)]=some [.int k a,.int k b]:=rfl;rw[hpl]
    cases lo with
    | true =>
      simp only[cond_true];rw[dmin vp vq,qY2];simp[pp1,SV.enc,Ty.fv,fvv]
    | false =>
      simp only[cond_false];rw[dmax vp vq,qY2];simp[pp1,SV.enc,Ty.fv,fvv]
 ·cases e
def q79 (P:Program)(ts:Array TypeId)(x:SV)(h:SH):Option SV:=match tQ P x.enc (qC h.l) with
 | some _=>none
 | none=>zD0 P ts x h
theorem q2R {v:SV}(ho:OkH P h)(hx:x.ok h)(e:q79 P ts x h=some v):qDP P ts x.enc (qC h.l)=some v.enc∧v.ok h:=by
 unfold q79 at e;split at e
 ·cases e
 ·rename_i hn;unfold qDP;rw[hn];exact q5X ho hx e
theorem qSC {lo hi:Option Operand}{K:SV->zFC R}(e:(qZC P t s (lo.map (kC env)) (hi.map (kC env)) K).run=some r) :
 ∃ v,qNW P (.slice t (.const (.string s)) (lo.map fun a=>.const ((pl (qJ (qB env) a)).getD undef)) (hi.map fun a=>.const ((pl (qJ (qB env) a)).getD undef)) none)=some v.enc∧v.ok h∧(K v).run=some r∧(plL ((lo.toList++hi.toList).map (qJ (qB env)))).isSome=true:=by
 obtain⟨c,e1⟩:=qE e;obtain⟨b,hb,_,e2⟩:=vS e1;obtain⟨a,ha,_,e3⟩:=vS e2;have m:∀ o:Option Operand,(o.map (kC env)).map SV.enc=o.map (qJ (qB env)):=fun o=>by cases o <;> simp[qN]
 rw[m] at hb ha;refine⟨.d .str (s.extract a b),by rw[q2Z (qEY c) hb ha];simp[SV.enc,Ty.fv,fvv],by simp[SV.ok],e3,?_⟩
 have one:∀ {o:Option Operand} {d most n:Nat},bnd d most (o.map (qJ (qB env)))=some n->o=none∨∃ a k i,o=some a∧qJ (qB env) a=fvv (.int k i):=fun {o d most n} h=>by
  rcases qY3 h with ⟨q,_⟩ | ⟨k,i,q,_⟩
  ·cases o with
   | none=>exact .inl rfl
   | some a=>cases q
  ·cases o with
   | none=>cases q
   | some a=>exact .inr ⟨a,k,i,rfl,by simpa using q⟩
 rcases one hb with rfl | ⟨x,k,i,rfl,hx⟩ <;> rcases one ha with rfl | ⟨y,k',i',rfl,hy⟩ <;> simp_all [plL,fvv,pl]
theorem qR9 {ix:SV}{K:SV->zFC R}(e:(qMC P t s ix K).run=some r) :
 ∃ v k i,ix.enc=fvv (.int k i)∧qNW P (.index t (.const (.string s)) (.const (.int k i)))=some v.enc∧v.ok h∧(K v).run=some r:=by
 unfold qMC at e;split at e
 ·rename_i k i hi;obtain⟨c,e1⟩:=qE e;obtain⟨b,hb,e2⟩:=run_bind e1;exact⟨.d (.int .u8) b,k,i,yC hi,by rw[q2F (qEY c) hb];simp[SV.enc,Ty.fv,fvv],by simp[SV.ok],e2⟩
 ·cases e
theorem q18 {s d:TypeId}{K:SV->zFC R}{F:zFC R}(e:(q1R P s d x K F).run=some r):(∃ v,bG P (fun a=>.convert s d a) x.enc=some v.enc∧v.ok h∧(K v).run=some r)∨F.run=some r:=by
 unfold q1R at e;split at e
 ·rename_i u k' hs hd;split at e
  ·rename_i k a ha;exact .inl ⟨_,by rw[yC ha,q57 hs hd];simp[SV.enc,Ty.fv,fvv],by simp[SV.ok],e⟩
  ·exact .inr e
 ·rename_i u hs hd;split at e
  ·rename_i a ha;exact .inl ⟨_,by rw[fV ha,q2Y hs hd];simp[SV.enc,Ty.fv,fvv],by simp[SV.ok],e⟩
  ·exact .inr e
 ·exact .inr e
def qLP (env:List SV)(parts:Array (Nat×Operand)):List (Nat×SV):=parts.toList.map fun p=>(p.1,kC env p.2)
theorem qEC (env:List SV)(parts:Array (Nat×Operand)):(parts.toList.map fun p=>(p.1,qJ (qB env) p.2))=q9I (qLP env parts):=by
 simp[qLP,q9I,qN]
omit [Yl] in
theorem qI9 {env:List SV}(ho:okL h env)(parts:Array (Nat×Operand)):∀ p∈qLP env parts,p.2.ok h:=fun p hp=>by
 obtain⟨q,_,rfl⟩:=zPL.1 hp;exact mV ho _
def qW5:Operand->Operand->Bool
 | .tmp i,.tmp j=>Nat.beq i j
 | .const (.int k a),.const (.int k' b)=>decide (k=k')&&decide (a=b)
 | _,_=>false
omit [Yl] in
theorem qZF {a b:Operand}(e:qW5 a b=true):a=b:=by
 unfold qW5 at e;split at e
 ·rw[zOU e]
 ·rw[zOT] at e;have h1:=of_decide_eq_true e.1;have h2:=of_decide_eq_true e.2;rw[h1,h2]
 ·cases e
def gv (o:Option SV)(h:SH)(K:SV->SH->zFC R):zFC R:=match o with
 | some v=>K v h
 | none=>.fail
def sop (P:Program)(o:Oper)(env:List SV)(k:Nat)(h:SH)(K:SV->SH->zFC R):zFC R:=match o.op with
 | .move x=>K (kC env x) h
 | .assign x=>K (kC env x) h
 | .pick c a b=>(match asB (kC env c) with
   | some t=>.ite t (K (kC env a) h) (K (kC env b) h)
   | none=>.fail)
 | .alloc el=>qZG P el k h K
 | .box el x=>zD7 P el (kC env x) k h K
 | .build t parts=>gv (qWA P t (qLP env parts)) h K
 | .buildSlice t len parts=>mW P t len (qLP env parts) k h K
 | .load t a=>q8J P t (kC env a) h fun v=>K v h
 | .store t a x=>qU1 P t (kC env a) (kC env x) h K
 | .nilCheck x=>gv (qBK (kC env x) h) h K
 | .binOp op t x y t2=>zDL P op t t2 o.type (kC env x) (kC env y) h fun v=>K v h
 | .unOp op t x=>sun P op t o.type (kC env x) fun v=>K v h
 | .convert s d x=>cond (qR2 (kC env x).enc) .fail (q1R P s d (kC env x) (fun v=>K v h) (qVU P (fun a=>.convert s d a) o.type (kC env x) fun v=>K v h))
 | .makeFunc fn first cap=>gv (qBT fn (eT env first) (eT env cap)) h K
 | .makeSlice t l c=>cond (qW5 l c) (q8X P t (kC env l) k h K) .fail
 | .slice t x lo hi none=>(match asS (kC env x) with
   | some s=>qZC P t s (lo.map (kC env)) (hi.map (kC env)) fun v=>K v h
   | none=>qVS P t (kC env x) (lo.map (kC env)) (hi.map (kC env)) h fun v=>K v h)
 | .fieldAddr t x i=>gv (rG P t (kC env x) i h) h K
 | .indexAddr t x ix=>rZ P t (kC env x) (kC env ix) h fun v=>K v h
 | .index t x ix=>(match asS (kC env x) with
   | some s=>qMC P t s (kC env ix) fun v=>K v h
   | none=>qWE P t (kC env x) (kC env ix) fun v=>K v h)
 | .extract t i=>gv (qGD (kC env t) i) h K
 | .makeMap _ none=>qRL P k h K
 | .lookup t m kx ok=>qMP P t (kC env m) (kC env kx) ok h fun v=>K v h
 | .mapUpdate t m kx x=>rF P t (kC env m) (kC env kx) (kC env x) h K
 | .mapEntry t m kx=>qDB P t (kC env m) (kC env kx) h K
 | .call c=>(match c.callee,eT env c.args with
   | .builtin .append,[x,y]=>q54 P c.argTypes.toList x y k h K
   | .builtin .copy,[x,y]=>q6O P c.argTypes.toList x y h K
   | .builtin .len,[x]=>cond (qZW P c.argTypes) (match asS x with
     | some s=>K (.d (.int .i64) (s.size:Int)) h
     | none=>.fail) (match q5T P c.argTypes x h with
     | some v=>K v h
     | none=>gv (q79 P c.argTypes x h) h K)
   | .builtin .min,[x,y]=>smm true x y fun v=>K v h
   | .builtin .max,[x,y]=>smm false x y fun v=>K v h
   | _,_=>.fail)
 | _=>.fail
omit [Yl] in
theorem qSD {o:Option SV}{K:SV->SH->zFC R}(e:(gv o h K).run=some r):∃ v,o=some v∧(K v h).run=some r:=by
 unfold gv at e;split at e
 ·exact⟨_,rfl,e⟩
 ·cases e
theorem q4W {k:Nat}{K:SV->SH->zFC R}(ho:OkH P h)(he:okL h env)(e:(sop P o env k h K).run=some r) :
 ∃ v h',rA P o (qB env) k (qC h.l)=some (v.enc,qC h'.l)∧Post P h h' v∧(K v h').run=some r:=by
 have same:∀ {v:SV},v.ok h->Post P h h v:=fun hv=>⟨.refl _,ho,hv⟩
 have sv:=fun x=>mV (h:=h) he x
 unfold sop at e;unfold rA;split at e
 ·rename_i x ho';exact⟨_,_,by simp only[ho',qN],same (sv x),e⟩
 ·rename_i x ho';exact⟨_,_,by simp only[ho',qN],same (sv x),e⟩
 ·rename_i c a b ho';split at e
  ·rename_i t ht;have h1:=sN ht
   rcases run_ite e with ⟨z,e1⟩ | ⟨z,e1⟩
   ·exact⟨_,_,by simp only[ho',qN,h1,fvv,z,cond_true],same (sv a),e1⟩
   ·exact⟨_,_,by simp only[ho',qN,h1,fvv,z,cond_false],same (sv b),e1⟩
  ·cases e
 ·rename_i el ho';rw[ho'];exact qYB ho e
 ·rename_i el x ho';rw[ho'];simp only[qN];exact q73 ho (sv x) e
 ·rename_i t parts ho';rw[ho'];obtain⟨v,h1,h2⟩:=qSD e;have h3:=qV2 (qI9 he parts) h1;exact⟨v,h,by simp only[qEC,h3.1,pp1],same h3.2,h2⟩
 ·rename_i t len parts ho';rw[ho'];simp only[qEC];exact qDZ ho (qI9 he parts) e
 ·rename_i t a ho';rw[ho'];obtain⟨v,h1,h2,h3⟩:=q1V ho (sv a) e;exact⟨v,h,by simp only[qN,h1,pp1],same h2,h3⟩
 ·rename_i t a x ho';rw[ho'];obtain⟨h',h1,h2,h3,h4⟩:=qY7 ho (sv a) (sv x) e;exact⟨_,h',by simp only[qN,h1,ppS];simp[SV.enc,qB],⟨h2,h3,by simp[SV.ok,okL]⟩,h4⟩
 ·rename_i x ho';rw[ho'];obtain⟨v,h1,h2⟩:=qSD e;have h3:=qI6 (sv x) h1;exact⟨v,h,by simp only[qN,h3.1,pp1],same h3.2,h2⟩
 ·rename_i op t x y t2 ho';rw[ho'];obtain⟨v,h1,h2,h3⟩:=q6C ho (sv x) e;exact⟨v,h,by simp only[qN,h1,pp1],same h2,h3⟩
 ·rename_i op t x ho';rw[ho'];obtain⟨v,h1,h2,h3⟩:=q97 (h:=h) e;exact⟨v,h,by simp only[qN,h1,pp1],same h2,h3⟩
 ·rename_i s d x ho';rw[ho']
  cases hp:qR2 (kC env x).enc with
  | true=>rw[hp] at e;cases e
  | false =>
    rw[hp] at e;have e1:(q1R P s d (kC env x) (fun v=>K v h) (qVU P (fun a=>.convert s d a) o.type (kC env x) fun v=>K v h)).run=some r:=e;rcases q18 (h:=h) e1 with ⟨v,h1,h2,h3⟩ | e1
    ·exact⟨v,h,by simp only[qN,hp,cond_false,h1,pp1],same h2,h3⟩
    ·obtain⟨v,h1,h2,h3,_⟩:=qP7 (h:=h) e1;exact⟨v,h,by simp only[qN,hp,cond_false,h1,pp1],same h2,h3⟩
 ·rename_i fn first cap ho'
  rw[ho'];obtain⟨v,h1,h2⟩:=qSD e;have h3:=qJ1 (fI he first) (fI he cap) h1;exact⟨v,h,by simp only[gV,h3.1,pp1],same h3.2,h2⟩
 ·rename_i t l c ho';rw[ho'];obtain⟨h1,h2⟩:=qE e;have:=qZF h1;subst this;simp only[qN];exact q0E ho h2
 ·rename_i t x lo hi ho';rw[ho'];split at e
  ·rename_i s hs;obtain⟨v,h1,h2,h3,h4⟩:=qSC (h:=h) e;obtain⟨vs,hvs⟩:=zP1.1 h4;refine⟨v,h,?_,same h2,h3⟩;have hx:qJ (qB env) x=.f (.v (.string s)):=by rw[qN];exact fV hs
   simp only[hx,hvs,h1,pp1]
  obtain⟨v,h1,h2,h3⟩:=qVX ho (sv x) e;refine⟨v,h,?_,same h2,h3⟩;have m:∀ o:Option Operand,o.map (qJ (qB env))=(o.map (kC env)).map SV.enc:=fun o=>by cases o <;> simp[qN]
  simp only[qN,m]
  have ns:∀ s,(kC env x).enc≠.f (.v (.string s)):=fun s hs=>by
   rw[hs] at h1;simp only[wW] at h1;cases h1
  split
  ·rename_i s hs;exact absurd hs (ns s)
  ·rw[h1];rfl
 ·rename_i t x i ho';rw[ho'];obtain⟨v,h1,h2⟩:=qSD e;have h3:=qGI (sv x) h1;exact⟨v,h,by simp only[qN,h3.1,pp1],same h3.2,h2⟩
 ·rename_i t x ix ho';rw[ho'];obtain⟨v,h1,h2,h3⟩:=qHA ho (sv x) e;exact⟨v,h,by simp only[qN,h1,pp1],same h2,h3⟩
 ·rename_i t x ix ho';rw[ho'];split at e
  ·rename_i s hs;obtain⟨v,k',i,h0,h1,h2,h3⟩:=qR9 (h:=h) e;refine⟨v,h,?_,same h2,h3⟩;have hx:=fV hs;have hpl:pl (fvv (.int k' i))=some (.int k' i):=rfl;simp only[qN,hx,h0,hpl];simp only[fvv,h1,pp1]
  obtain⟨v,h1,h2,h3,l,hl⟩:=qUT (sv x) e;refine⟨v,h,?_,same h2,h3⟩;simp only[qN];rw[hl] at h1 ⊢;simp only[SV.enc] at h1 ⊢;rw[h1];rfl
 ·rename_i t i ho';rw[ho'];obtain⟨v,h1,h2⟩:=qSD e;have h3:=qN8 (sv t) h1;exact⟨v,h,by simp only[qN,h3.1,pp1],same h3.2,h2⟩
 ·rename_i ho';rw[ho'];exact qOK ho e
 ·rename_i t m kx ok ho';rw[ho'];obtain⟨v,h1,h2,h3⟩:=qS9 e;exact⟨v,h,by simp only[qN,h1,pp1],same h2,h3⟩
 ·rename_i t m kx x ho';rw[ho'];obtain⟨h',h1,h2,h3,h4⟩:=qG8 ho e;exact⟨_,h',by simp only[qN,h1,ppS];simp[SV.enc,qB],⟨h2,h3,by simp[SV.ok,okL]⟩,h4⟩
 ·rename_i t m kx ho';rw[ho'];simp only[qN];exact qIR ho e
 ·rename_i c ho';rw[ho'];have ha:=gV env c.args;have hao:=fI he c.args;split at e
  ·rename_i x y hc hl;rw[hl] at ha hao;simp only[okL] at hao;simp only[hc,ha,qB,uQ];exact q0R ho hao.1 hao.2.1 e
  ·rename_i x y hc hl;rw[hl] at ha hao;simp only[okL] at hao;simp only[hc,ha,qB,uQ];exact q0Y ho hao.1 hao.2.1 e
  ·rename_i x hc hl;rw[hl] at ha hao;simp only[okL] at hao
   cases hst:qZW P c.argTypes with
   | true =>
     rw[hst] at e;simp only[cond_true] at e;split at e
     ·rename_i s hs;refine⟨_,h,?_,same (by simp[SV.ok]),e⟩;obtain⟨cal,args,ts⟩:=c;simp only at hc hl hst;subst hc
      obtain⟨p,rfl,hp⟩:∃ p,args=#[p]∧kC env p=x:=by
       unfold eT at hl;obtain⟨l⟩:=args
       match l,hl with
       | [p],hl=>simp at hl;exact⟨p,rfl,hl⟩
      have vp:(qSZ (qB env)).val p=.string s:=cZ P (by rw[qN,hp,fV hs];rfl);simp only[uQ,ha,qB,hst,cond_true];unfold vY;have hpl:plL [x.enc]=some [.string s]:=by rw[fV hs];rfl
      rw[hpl];simp only;rw[qO4 hst vp];simp[pp1,SV.enc,Ty.fv,fvv]
     ·cases e
   | false =>
     rw[hst] at e;simp only[cond_false] at e;split at e
     ·rename_i v hv;have h3:=qZZ hv;refine⟨v,h,?_,same h3.2,e⟩;simp only[hc,ha,qB,uQ,hst,cond_false,h3.1,pp1]
     obtain⟨v,h1,h2⟩:=qSD e;have h3:=q2R ho hao.1 h1;refine⟨v,h,?_,same h3.2,h2⟩;simp only[hc,ha,qB,uQ,hst,cond_false,h3.1,pp1]
  ·rename_i x y hc hl;rw[hl] at ha;obtain⟨v,h1,h2,h3⟩:=q45 (h:=h) (lo:=true) (ty:=o.type) hl hc e;exact⟨v,h,by simp only[hc,ha,qB,uQ];exact h1,same h2,h3⟩
  ·rename_i x y hc hl;rw[hl] at ha;obtain⟨v,h1,h2,h3⟩:=q45 (h:=h) (lo:=false) (ty:=o.type) hl hc e;exact⟨v,h,by simp only[hc,ha,qB,uQ];exact h1,same h2,h3⟩
  ·cases e
 ·cases e
def zC3 (P:Program)(o:Oper)(env:List SV)(k:Nat)(h:SH)(K:SV->SH->zFC R):zFC R:=match o.op with
 | .entry it=>qYO P (kC env it) h K
 | _=>sop P o env k h K
theorem q6S {k:Nat}{K:SV->SH->zFC R}(ho:OkH P h)(he:okL h env)(e:(zC3 P o env k h K).run=some r) :
 ∃ v h',q5F P o (qB env) k (qC h.l)=some (v.enc,qC h'.l)∧Post P h h' v∧(K v h').run=some r:=by
 unfold zC3 at e;split at e
 ·rename_i it ho';obtain⟨v,h1,h2,h3⟩:=qVQ ho e;refine⟨v,h,?_,⟨.refl _,ho,h2⟩,h3⟩;unfold q5F;rw[ho'];simp only[qN,h1,pp1]
 ·obtain⟨v,h',h1,h2,h3⟩:=q4W ho he e;exact⟨v,h',qYA h1,h2,h3⟩
end
end Go.Sv
namespace Go.Sv
open Go.Idl
variable {as env:List SV}{d k m n o w:Nat}{el ty:TypeId}{g:FuncId}{h':SH}{nm:Nm}{v:SV}
noncomputable section
variable [Gc]
variable [Yl]
variable {P:Program}{h:SH}{R:Type}{r:R}{tab:u6}
omit [Yl] in
theorem qA0:∀ (cs:List FV) (ph:PHp) (n:Nat),tZ (fz1 P n) (cs.map .f) ph=some (cs,ph)
 | [],ph,n=>rfl
 | c::cs,ph,n=>by
   have e:fz1 P n ph (.f c)=some (c,ph):=by cases n <;> rfl
   show (match fz1 P n ph (.f c) with
    | some (y,ph1)=>(match tZ (fz1 P n) (cs.map .f) ph1 with
      | some (ys,ph2)=>some (y::ys,ph2)
      | none=>none)
    | none=>none)=_
   rw[e];simp only[qA0 cs ph n]
theorem q0G {gr:Bool}{g:Nat}{t:Ty}{xs:List t.sem}(ho:OkH P h)(hk:slk k h.l=some (.list el gr g w t xs))(hn:n=xs.length)(hom:o+m<=n) :
 fz1 P (d+1) (qC h.l) (.own k n o m)=some (.l el m (((xs.drop o).take m).flatMap t.cells),qC (h.del k).l):=by
 have hl:=ho.list _ _ _ _ _ _ _ hk;simp only[fz1,zI hk];rw[show (SO.list el gr g w t xs).enc.el=el from rfl,hl.2.1];simp only[qU,hn,aM,cond_true];rw[show (SO.list el gr g w t xs).enc.cs=(xs.flatMap t.cells).map .f from rfl,<-zQ9,<-zQ3,gK,gN,qA0];show some _=some (_,qC (sdl k h.l));rw[fA]
def q0T (el:TypeId)(t:Ty)(k g:Nat)(f:List t.sem->List t.sem)(h:SH):Option (List t.sem×SH):=match slk k h.l with
 | some (.list el' _ g' _ u xs)=>cond (Nat.beq el' el&&Nat.beq g g') (match qDT u t xs with
   | some xs=>some (f xs,h.del k)
   | none=>none) none
 | _=>none
def q3U (el:TypeId)(t:Ty):List SV->SH->Option (List (List t.sem)×SH)
 | [],h=>some ([],h)
 | .own k g _::l,h=>(match q0T el t k g (fun xs=>xs) h with
   | some (x,h1)=>(match q3U el t l h1 with
     | some (xs,h2)=>some (x::xs,h2)
     | none=>none)
   | none=>none)
 | _,_=>none
def qUM (P:Program)(el e2:TypeId)(t2:Ty)(k n:Nat)(h:SH):Option (List (List t2.sem)×SH):=match slk k h.l with
 | some (.cells el' _ cs)=>cond (Nat.beq el' el&&Nat.beq n cs.length) (match szT P el with
   | some 1=>q3U e2 t2 cs (h.del k)
   | _=>none) none
 | _=>none
def zBR (P:Program)(el:TypeId):(t:Ty)->(k n:Nat)->SH->Option (List t.sem×SH)
 | .list e2 t2,k,n,h=>qUM P el e2 t2 k n h
 | _,_,_,_=>none
def zAT (P:Program)(el:TypeId)(t:Ty)(k g n:Nat)(h:SH):Option (List t.sem×SH):=match q0T el t k g (fun xs=>xs) h with
 | some r=>some r
 | none=>zBR P el t k n h
def zEQ (P:Program)(ty el:TypeId)(t:Ty)(h:SH):Option (List t.sem×SH):=match zN P ty with
 | some el'=>cond (Nat.beq el' el) (some ([],h)) none
 | none=>none
def zBG (P:Program)(ty el el':TypeId)(k':IntKind)(xs:List Int):(t:Ty)->Option (List t.sem)
 | .int k=>cond (Nat.beq el' el&&decide (k'=k)) (match zN P ty with
   | some e=>cond (Nat.beq e el) (some xs) none
   | none=>none) none
 | _=>none
def qWZ (t:Ty)(v:SV)(h:SH):Option (t.sem×SH):=match t.zJW v with
 | some x=>some (x,h)
 | none=>none
def q6G (P:Program)(el el':TypeId)(k w:Nat)(ik:IntKind)(h:SH):Option (List Int×SH):=match slk k h.l with
 | some (.spc w' (.arr el0 ik' xs))=>cond (Nat.beq el el'&&(Nat.beq w' w&&(decide (ik'=ik)&&!spec P el0))) (some (xs,h.del k)) none
 | _=>none
def zA0 (P:Program)(el el':TypeId)(k w:Nat):(t:Ty)->SH->Option (List t.sem×SH)
 | .int ik,h=>q6G P el el' k w ik h
 | _,_=>none
omit [Yl] in
theorem q1F {k:IntKind}:∀ (xs:List Int),List.flatMap (Ty.int k).cells xs=xs.map fun x=>FV.v (.int k x)
 | []=>rfl
 | x::xs=>by rw[zPO,q1F xs];rfl
theorem q0H {el':TypeId}:∀ {t:Ty} {h h':SH} {x:List t.sem},OkH P h->(SV.asl el' k w n).ok h->zA0 P el el' k w t h=some (x,h') ->
 fz1 P 4 (qC h.l) (.asl el' k n)=some ((Ty.list el t).fv x,qC h'.l)∧Keep h h'∧OkH P h'
 | .int ik,h,h',x,ho,hv,e=>by
   have e:q6G P el el' k w ik h=some (x,h'):=e;unfold q6G at e;split at e
   ·rename_i w' el0 ik' xs hk
    cases hc:(Nat.beq el el'&&(Nat.beq w' w&&(decide (ik'=ik)&&!spec P el0))) with
    | false=>rw[hc] at e;cases e
    | true =>
      rw[hc] at e;cases e;simp only[zOT,zPN,decide_eq_true_eq] at hc;obtain⟨h1,h2,h3,h4⟩:=hc;have h1:=zOU h1;have h2:=zOU h2;subst h1 h2 h3;simp only[SV.ok] at hv;obtain⟨el1,ik1,xs1,q1,q2⟩:=hv.2 _ hk rfl;cases q1;have hd:=gW (k:=k) ho;refine⟨?_,hd.1,hd.2⟩;simp only[fz1,zI hk]
      show (cond (Nat.beq n (x.map fun y=>fvv (.int ik' y)).length&&(!spec P el0&&!false)) (match tZ (fz1 P 3) (x.map fun y=>fvv (.int ik' y)) (oK k (qC h.l)) with
       | some (cs,ph')=>some (FV.l el n cs,ph')
       | none=>none) none)=_
      rw[show (x.map fun y=>fvv (.int ik' y))=(x.map fun y=>FV.v (.int ik' y)).map .f by rw[zQ5];rfl,qA0,zO5,zO5,h4,q2];simp only[aM,Bool.not_false,zPQ,cond_true];rw[show oK k (qC h.l)=qC (h.del k).l from (fA k _).symm];show some (FV.l el x.length _,_)=some (FV.l el x.length (List.flatMap (Ty.int ik').cells x),_);rw[q1F]
   ·cases e
 | .bool,_,_,_,_,_,e=>by cases e
 | .str,_,_,_,_,_,e=>by cases e
 | .raw,_,_,_,_,_,e=>by cases e
 | .nif,_,_,_,_,_,e=>by cases e
 | .unit,_,_,_,_,_,e=>by cases e
 | .ol _ _,_,_,_,_,_,e=>by cases e
 | .list _ _,_,_,_,_,_,e=>by cases e
 | .pair _ _,_,_,_,_,_,e=>by cases e
def q3I (P:Program)(ty:TypeId):(t:Ty)->SV->SH->Option (t.sem×SH)
 | .list el t,.own k g n,h=>zAT P el t k g n h
 | .list el t,.sl k g _ o m,h=>q0T el t k g (fun xs=>(xs.drop o).take m) h
 | .list el t,.asl el' k w _,h=>zA0 P el el' k w t h
 | .list el t,.c (.slice none 0 0),h=>zEQ P ty el t h
 | .list el t,.d (.ol el' k') xs,h=>(match zBG P ty el el' k' xs t with
   | some x=>some (x,h)
   | none=>none)
 | t,v,h=>cond t.nol (qWZ t v h) none
omit [Yl] in
theorem nS:∀ {t:Ty} {x:t.sem},(t.one&&t.nol)=true->rt0 P ty (.f (t.fv x))=.f (t.fv x)
 | .int _,_,_=>rfl
 | .bool,_,_=>rfl
 | .str,_,_=>rfl
 | .raw,_,_=>rfl
 | .nif,_,_=>rfl
 | .ol _ _,_,e=>by cases e
 | .list _ _,_,_=>rfl
 | .unit,_,e=>by cases e
 | .pair _ _,_,e=>by cases e
theorem qPC {t:Ty}{g:Nat}{f:List t.sem->List t.sem}{x:List t.sem}(ho:OkH P h)(hs:qX9 h k g n)(hom:o+m<=n)(hf:∀ xs:List t.sem,xs.length=n->f xs=(xs.drop o).take m)(e:q0T el t k g f h=some (x,h')) :
 fz1 P (d+1) (qC h.l) (.own k n o m)=some ((Ty.list el t).fv x,qC h'.l)∧Keep h h'∧OkH P h':=by
 unfold q0T at e;split at e
 ·rename_i el' gr g' w u xs hk
  cases hc:(Nat.beq el' el&&Nat.beq g g') with
  | false=>rw[hc] at e;cases e
  | true =>
    rw[hc] at e;rw[zOT] at hc;have he:el'=el:=zOU hc.1;have hg:g=g':=zOU hc.2;subst he hg;simp only[cond_true] at e;split at e
    ·rename_i ys hys;cases uI hys;cases e;have hn:=hs.2 _ _ _ _ _ hk;have hd:=gW (k:=k) ho;refine⟨?_,hd.1,hd.2⟩;rw[q0G ho hk hn hom,hf _ hn.symm];show some (FV.l el' m _,_)=some (FV.l el' _ _,_);rw[zQE,zRK,zQN (by omega)]
    ·cases e
 ·cases e
theorem qHQ {ty:TypeId}{t:Ty}{g:Nat}{f:List t.sem->List t.sem}{x:List t.sem}(ho:OkH P h)(hs:qX9 h k g n)(hom:o+m<=n)(hf:∀ xs:List t.sem,xs.length=n->f xs=(xs.drop o).take m)(e:q0T el t k g f h=some (x,h')) :
 fz1 P 4 (qC h.l) (.own k n o m)=some ((Ty.list el t).fv x,qC h'.l)∧Keep h h'∧OkH P h' :=
 qPC (d:=3) ho hs hom hf e
theorem qQ0 {el:TypeId}{t:Ty}:∀ {l:List SV} {h h':SH} {x:List (List t.sem)},OkH P h->okL h l->q3U el t l h=some (x,h') ->
 tZ (fz1 P 3) (qB l) (qC h.l)=some (x.map (Ty.list el t).fv,qC h'.l)∧Keep h h'∧OkH P h'∧x.length=l.length
 | [],h,h',x,ho,hl,e=>by
   cases e;exact⟨rfl,.refl _,ho,rfl⟩
 | v::l,h,h',x,ho,hl,e=>by
   cases v with
   | own k g n =>
     have e:(match q0T el t k g (fun xs=>xs) h with
      | some (x,h1)=>(match q3U el t l h1 with
        | some (xs,h2)=>some (x::xs,h2)
        | none=>none)
      | none=>none)=some (x,h'):=e
     split at e
     ·rename_i y h1 hy;split at e
      ·rename_i ys h2 hys;cases e;simp only[okL,SV.ok] at hl;obtain⟨a1,a2,a3⟩:=qPC (d:=2) (n:=n) (o:=0) (m:=n) ho hl.1 (by omega) (fun xs hl=>by rw[zQH,<-hl,zRX]) hy;obtain⟨b1,b2,b3,b4⟩:=qQ0 a3 (qI a2 hl.2) hys;refine⟨?_,a2.trans b2,b3,by simp[b4]⟩
       show (match fz1 P 3 (qC h.l) (.own k n 0 n) with
        | some (y,ph1)=>(match tZ (fz1 P 3) (qB l) ph1 with
          | some (ys,ph2)=>some (y::ys,ph2)
          | none=>none)
        | none=>none)=_
       rw[a1];simp only[b1];rfl
      ·cases e
     ·cases e
   | _=>cases e
theorem q0S:∀ {t:Ty} {k n g:Nat} {h h':SH} {x:List t.sem},OkH P h->zBR P el t k n h=some (x,h') ->
 fz1 P 4 (qC h.l) (.own k n 0 n)=some ((Ty.list el t).fv x,qC h'.l)∧Keep h h'∧OkH P h'
 | .list e2 t2,k,n,g,h,h',x,ho,e=>by
   have e:qUM P el e2 t2 k n h=some (x,h'):=e;unfold qUM at e;split at e
   ·rename_i el' w cs hk
    cases hc:(Nat.beq el' el&&Nat.beq n cs.length) with
    | false=>rw[hc] at e;cases e
    | true =>
      rw[hc] at e;simp only[cond_true] at e;rw[zOT] at hc;have h1:=zOU hc.1;have h2:=zOU hc.2;subst h1;split at e
      ·rename_i hs;have hd:=gW (k:=k) ho;obtain⟨b1,b2,b3,b4⟩:=qQ0 hd.2 (qI hd.1 (ho.cells _ _ _ _ hk)) e;refine⟨?_,hd.1.trans b2,b3⟩;simp only[fz1,zI hk]
       show (match szT P el' with
        | some s=>cond (Nat.beq (n*s) (qB cs).length) (match tZ (fz1 P 3) (((qB cs).drop (0*s)).take (n*s)) (oK k (qC h.l)) with
          | some (cs,ph')=>some (FV.l el' n cs,ph')
          | none=>none) none
        | none=>none)=_
       rw[hs];simp only[Nat.mul_one,zSL,zQH,qP,h2,aM,cond_true];rw[zPI (by rw[qP];exact zOV _),show oK k (qC h.l)=qC (h.del k).l from (fA k _).symm,b1];show some (FV.l el' cs.length (x.map (Ty.list e2 t2).fv),_)=some (FV.l el' x.length (x.flatMap (Ty.list e2 t2).cells),_);rw[b4]
       have hf:∀ y:List (List t2.sem),y.flatMap (Ty.list e2 t2).cells=y.map (Ty.list e2 t2).fv:=fun y=>by
        induction y with
        | nil=>rfl
        | cons a y ih=>rw[zPO,ih];rfl
       rw[hf]
      ·cases e
   ·cases e
 | .int _,_,_,_,_,_,_,_,e=>by cases e
 | .bool,_,_,_,_,_,_,_,e=>by cases e
 | .str,_,_,_,_,_,_,_,e=>by cases e
 | .unit,_,_,_,_,_,_,_,e=>by cases e
 | .pair _ _,_,_,_,_,_,_,_,e=>by cases e
 | .raw,_,_,_,_,_,_,_,e=>by cases e
 | .ol _ _,_,_,_,_,_,_,_,e=>by cases e
 | .nif,_,_,_,_,_,_,_,e=>by cases e
theorem qRP {t:Ty}{x:t.sem}(ho:OkH P h)(hv:v.ok h)(e:q3I P ty t v h=some (x,h')) :
 ∃ y,fz1 P 4 (qC h.l) v.enc=some (y,qC h'.l)∧rt0 P ty (.f y)=.f (t.fv x)∧(t.one&&t.nol)=true∧Keep h h'∧OkH P h':=by
 unfold q3I at e;split at e
 ·rename_i el t k g n;simp only[SV.ok] at hv;unfold zAT at e;split at e
  ·rename_i r hr;cases e;obtain⟨h1,h2,h3⟩:=qHQ (ty:=ty) (n:=n) (o:=0) (m:=n) ho hv (by omega) (fun xs hl=>by rw[zQH,<-hl,zRX]) hr;exact⟨_,by simp only[SV.enc];exact h1,nS rfl,rfl,h2,h3⟩
  ·obtain⟨h1,h2,h3⟩:=q0S (g:=g) ho e;exact⟨_,by simp only[SV.enc];exact h1,nS rfl,rfl,h2,h3⟩
 ·rename_i el t k g n o m;simp only[SV.ok] at hv;obtain⟨h1,h2,h3⟩:=qHQ (ty:=ty) (n:=n) (o:=o) (m:=m) ho hv.1 hv.2 (fun xs hl=>rfl) e;exact⟨_,by simp only[SV.enc];exact h1,nS rfl,rfl,h2,h3⟩
 ·rename_i el t el' k w n;obtain⟨h1,h2,h3⟩:=q0H ho hv e;exact⟨_,by simp only[SV.enc];exact h1,nS rfl,rfl,h2,h3⟩
 ·rename_i el t;unfold zEQ at e;split at e
  ·rename_i el' hel
   cases hc:Nat.beq el' el with
   | false=>rw[hc] at e;cases e
   | true =>
     rw[hc] at e;cases e;have he:el'=el:=zOU hc;subst he;refine⟨.v (.slice none 0 0),by simp only[SV.enc,fvv,fz1],?_,rfl,.refl _,ho⟩
     show (match zN P ty with
      | some el=>PV.f (.l el 0 [])
      | none=>fvv (.slice none 0 0))=_
     rw[hel];rfl
  ·cases e
 ·rename_i el t el' k' xs;split at e
  ·rename_i y hy;cases e;unfold zBG at hy;split at hy
   ·rename_i k _
    cases hc:(Nat.beq el' el&&decide (k'=k)) with
    | false=>rw[hc] at hy;cases hy
    | true =>
      rw[hc] at hy;rw[zOT] at hc;have h1:el'=el:=zOU hc.1;have h2:k'=k:=by simpa using hc.2
      subst h1 h2;simp only[cond_true] at hy;split at hy
      ·rename_i e0 he0
       cases hc2:Nat.beq e0 el' with
       | false=>rw[hc2] at hy;cases hy
       | true =>
         rw[hc2] at hy;cases hy;have h3:e0=el':=zOU hc2;subst h3;refine⟨fvo e0 k' xs,by simp only[SV.enc];rfl,?_,rfl,.refl _,ho⟩
         cases xs with
         | nil =>
           show (match zN P ty with
            | some el=>PV.f (.l el 0 [])
            | none=>fvv (.slice none 0 0))=_
           rw[he0];rfl
         | cons x xs=>rfl
      ·cases hy
   ·cases hy
  ·cases e
 ·obtain⟨zM6,e⟩:t.nol=true∧qWZ t v h=some (x,h'):=by
   cases hn:t.nol with
   | true=>rw[hn] at e;exact⟨rfl,e⟩
   | false=>rw[hn] at e;cases e
  unfold qWZ at e;split at e
  ·rename_i y hy;cases e;obtain⟨h1,h2⟩:=qAY hy;have h3:(t.one&&t.nol)=true:=by rw[h2,zM6];rfl
   exact⟨_,by rw[h1];rfl,nS h3,h3,.refl _,ho⟩
  ·cases e
def zC5 (P:Program)(ty:TypeId)(t:Ty)(v:SV)(h:SH):Option (t.sem×SH):=cond (Gc.ol ty) (qWZ t v h) (q3I P ty t v h)
theorem q8K {t:Ty}{x:t.sem}(ho:OkH P h)(hv:v.ok h)(e:zC5 P ty t v h=some (x,h')) :
 ∃ y,fz1 P 4 (qC h.l) v.enc=some (y,qC h'.l)∧rtC P ty (.f y)=.f (t.fv x)∧rtC P ty (.f (t.fv x))=.f (t.fv x)∧t.one=true∧Keep h h'∧OkH P h':=by
 unfold zC5 at e;unfold rtC
 cases hc:Gc.ol ty with
 | true =>
   rw[hc] at e;simp only[cond_true] at e ⊢;unfold qWZ at e;split at e
   ·rename_i y hy;cases e;obtain⟨h1,h2⟩:=qAY hy;exact⟨_,by rw[h1];rfl,rfl,trivial,h2,.refl _,ho⟩
   ·cases e
 | false =>
   rw[hc] at e;simp only[cond_false] at e ⊢;obtain⟨y,a1,a2,a3,a4,a5⟩:=qRP ho hv e;exact⟨y,a1,a2,nS a3,(by rw[zOT] at a3;exact a3.1),a4,a5⟩
def qH2 (P:Program)(t:Ty)(tys:List TypeId)(l:List SV)(h:SH):Option (t.sem×List TypeId×List SV×SH):=match tys,l with
 | ty::tys,v::l=>(match zC5 P ty t v h with
   | some (x,h')=>some (x,tys,l,h')
   | none=>none)
 | _,_=>none
def Ty.zIH (P:Program):(t:Ty)->List TypeId->List SV->SH->Option (t.sem×List TypeId×List SV×SH)
 | .unit,tys,l,h=>some ((),tys,l,h)
 | .pair a b,tys,l,h=>match a.zIH P tys l h with
   | some (x,zI7,l1,h1)=>(match b.zIH P zI7 l1 h1 with
     | some (y,zLT,l2,h2)=>some ((x,y),zLT,l2,h2)
     | none=>none)
   | none=>none
 | .int k,tys,l,h=>qH2 P (.int k) tys l h
 | .bool,tys,l,h=>qH2 P .bool tys l h
 | .str,tys,l,h=>qH2 P .str tys l h
 | .raw,tys,l,h=>qH2 P .raw tys l h
 | .ol el k,tys,l,h=>qH2 P (.ol el k) tys l h
 | .nif,tys,l,h=>qH2 P .nif tys l h
 | .list el t,tys,l,h=>qH2 P (.list el t) tys l h
def zD9 (P:Program)(t:Ty)(tys:List TypeId)(l:List SV)(h:SH)(x:t.sem)(zFU:List TypeId)(l':List SV)(h':SH):Prop :=
 okL h' l'∧Keep h h'∧OkH P h'∧∃ ys:List FV,(∀ zs p,tZ (fz1 P 4) (qB l') (qC h'.l)=some (zs,p)->tZ (fz1 P 4) (qB l) (qC h.l)=some (ys++zs,p)) ∧
  ∀ zs:List PV,rtL (rtC P) tys (ys.map .f++zs)=(t.cells x).map .f++rtL (rtC P) zFU zs∧rtL (rtC P) tys ((t.cells x).map .f++zs)=(t.cells x).map .f++rtL (rtC P) zFU zs
theorem fM {t:Ty}{tys zFU:List TypeId}{l l':List SV}{x:t.sem}(ho:OkH P h)(hl:okL h l)(e:qH2 P t tys l h=some (x,zFU,l',h')):zD9 P t tys l h x zFU l' h':=by
 unfold qH2 at e;split at e
 ·rename_i ty tys v l;split at e
  ·rename_i y h1 hd;cases e;simp only[okL] at hl;obtain⟨y,a1,a2,a2',a3,a4,a5⟩:=q8K ho hl.1 hd;refine⟨qI a4 hl.2,a4,a5,[y],fun zs p hz=>?_,fun zs=>⟨?_,?_⟩⟩
   ·simp only[qB,tZ,a1,hz];rfl
   ·show rtC P ty (.f y)::rtL (rtC P) _ zs=_;rw[a2,Ty.cells_one a3];rfl
   ·rw[Ty.cells_one a3];show rtC P ty (.f (t.fv _))::rtL (rtC P) _ zs=_;rw[a2'];rfl
  ·cases e
 ·cases e
theorem qCQ:∀ {t:Ty} {tys zFU:List TypeId} {l l':List SV} {h:SH} {x:t.sem} {h':SH},OkH P h->okL h l->t.zIH P tys l h=some (x,zFU,l',h')->zD9 P t tys l h x zFU l' h'
 | .unit,tys,zFU,l,l',h,x,h',ho,hl,e=>by
   cases e;exact⟨hl,.refl _,ho,[],fun zs p hz=>hz,fun zs=>⟨rfl,rfl⟩⟩
 | .int k,tys,zFU,l,l',h,x,h',ho,hl,e=>fM ho hl e
 | .bool,tys,zFU,l,l',h,x,h',ho,hl,e=>fM ho hl e
 | .str,tys,zFU,l,l',h,x,h',ho,hl,e=>fM ho hl e
 | .raw,tys,zFU,l,l',h,x,h',ho,hl,e=>fM ho hl e
 | .ol _ _,tys,zFU,l,l',h,x,h',ho,hl,e=>fM ho hl e
 | .nif,tys,zFU,l,l',h,x,h',ho,hl,e=>fM ho hl e
 | .list el t,tys,zFU,l,l',h,x,h',ho,hl,e=>fM ho hl e
 | .pair a b,tys,zFU,l,l',h,x,h',ho,hl,e=>by
   unfold Ty.zIH at e;split at e
   ·rename_i x1 zI7 l1 h1 hd1;split at e
    ·rename_i y zLT l2 h2 hd2;cases e;obtain⟨a1,a2,a3,ys,a4,a5⟩:=qCQ ho hl hd1;obtain⟨b1,b2,b3,zs,b4,b5⟩:=qCQ a3 a1 hd2;refine⟨b1,a2.trans b2,b3,ys++zs,fun us p hu=>?_,fun us=>⟨?_,?_⟩⟩
     ·rw[zPT];exact a4 _ _ (b4 _ _ hu)
     ·rw[zQD,zPT,(a5 _).1,(b5 _).1];show _=(a.cells x1++b.cells y).map PV.f++_;rw[zQD,zPT]
     ·show rtL (rtC P) _ ((a.cells x1++b.cells y).map PV.f++us)=(a.cells x1++b.cells y).map PV.f++_;rw[zQD,zPT,(a5 _).2,(b5 _).2,zPT]
    ·cases e
   ·cases e
def q8U (P:Program)(ty:TypeId)(t:Ty)(v:SV)(h:SH):Option (t.sem×SH):=cond t.one (match v with
 | .agg _=>none
 | v=>q3I P ty t v h) (match v with
 | .agg l=>(match t.zIH P (vZ P 8 ty) l h with
   | some (x,_,[],h')=>some (x,h')
   | _=>none)
 | _=>none)
theorem qCW {t:Ty}{x:t.sem}(ho:OkH P h)(hv:v.ok h)(e:q8U P ty t v h=some (x,h')) :
 ∃ y,fzP P (qC h.l) v.enc=some (y,qC h'.l)∧rt1 P ty y=t.pv x∧Keep h h'∧OkH P h'∧rt1 P ty (t.pv x)=t.pv x:=by
 unfold q8U at e
 cases ht:t.one with
 | true =>
   rw[ht] at e;simp only[cond_true] at e;split at e
   ·cases e
   ·rename_i hna;obtain⟨y,h1,h2,h3,h4,h5⟩:=qRP ho hv e
    have hpv:rt1 P ty (t.pv x)=t.pv x:=by
     unfold Ty.pv;rw[ht];exact nS h3
    refine⟨.f y,?_,?_,h4,h5,hpv⟩
    ·cases v with
     | agg l=>exact absurd rfl (hna l)
     | opt b k o w=>cases b <;> (simp only[SV.enc,fvv,fzP,cond_true,cond_false] at h1 ⊢;rw[h1])
     | _=>simp only[SV.enc,fvv,fzP] at h1 ⊢;rw[h1]
    ·show rt0 P ty (.f y)=_;rw[h2];unfold Ty.pv;rw[ht];rfl
 | false =>
   rw[ht] at e;simp only[cond_false] at e;split at e
   ·rename_i l;split at e
    ·rename_i x1 zI7 h1 hd;cases e;simp only[SV.ok] at hv;obtain⟨a1,a2,a3,ys,a4,a5⟩:=qCQ ho hv hd
     have hpv:rt1 P ty (t.pv x)=t.pv x:=by
      unfold Ty.pv;rw[ht];show PV.agg (rtL (rtC P) (vZ P 8 ty) ((t.cells x).map .f))=_;have:=(a5 []).2;rw[zQT] at this;rw[this];cases zI7 <;> simp[rtL]
     refine⟨.agg (ys.map .f),?_,?_,a2,a3,hpv⟩
     ·have:=a4 [] (qC h'.l) (by simp[qB,tZ]);simp only[SV.enc,fzP,this,zQT]
     ·show PV.agg (rtL (rtC P) (vZ P 8 ty) (ys.map .f))=_;have:=(a5 []).1;rw[zQT] at this;rw[this];unfold Ty.pv;rw[ht];cases zI7 <;> simp[rtL]
    ·cases e
   ·cases e
def vW (P:Program):List TypeId->(ts:List Ty)->List SV->SH->Option (TyL ts×SH)
 | _,[],[],h=>some ((),h)
 | ty::_,[t],[v],h=>q8U P ty t v h
 | ty::tys,t::u::ts,v::vs,h=>match q8U P ty t v h with
   | some (x,h1)=>(match vW P tys (u::ts) vs h1 with
     | some (y,h2)=>some ((x,y),h2)
     | none=>none)
   | none=>none
 | _,_,_,_=>none
theorem bW:∀ {tys:List TypeId} {ts:List Ty} {vs:List SV} {h:SH} {x:TyL ts} {h':SH},OkH P h->okL h vs->vW P tys ts vs h=some (x,h') ->
 ∃ ys,fzA P (qB vs) (qC h.l)=some (ys,qC h'.l)∧rtL (rt1 P) tys ys=pvL ts x∧Keep h h'∧OkH P h'
 | tys,[],[],h,x,h',ho,hv,e=>by
   unfold vW at e;cases e;refine⟨[],rfl,?_,.refl _,ho⟩;cases tys <;> rfl
 | ty::tys,[t],[v],h,x,h',ho,hv,e=>by
   unfold vW at e;simp only[okL] at hv;obtain⟨y,h1,h2,h3,h4,_⟩:=qCW ho hv.1 e;refine⟨[y],?_,?_,h3,h4⟩
   ·simp only[qB,fzA,h1]
   ·show rt1 P ty y::rtL (rt1 P) tys []=[t.pv x];rw[h2];cases tys <;> rfl
 | ty::tys,t::u::ts,v::vs,h,x,h',ho,hv,e=>by
   unfold vW at e;simp only[okL] at hv;split at e
   ·rename_i x1 h1 hd;split at e
    ·rename_i y1 h2 hd2;cases e;obtain⟨y,a1,a2,a3,a4,_⟩:=qCW ho hv.1 hd;obtain⟨ys,b1,b2,b3,b4⟩:=bW a4 (qI a3 hv.2) hd2;refine⟨y::ys,?_,?_,a3.trans b3,b4⟩
     ·simp only[qB,fzA,a1,b1]
     ·show rt1 P ty y::rtL (rt1 P) tys ys=t.pv x1::pvL (u::ts) y1;rw[a2,b2]
    ·cases e
   ·cases e
 | [],[_],[_],_,_,_,_,_,e=>by unfold vW at e;cases e
 | [],_::_::_,_::_,_,_,_,_,_,e=>by unfold vW at e;cases e
 | tys,[],_::_,_,_,_,_,_,e=>by cases tys <;> (unfold vW at e;cases e)
 | tys,_::ts,[],_,_,_,_,_,e=>by cases tys <;> cases ts <;> (unfold vW at e;cases e)
 | tys,[_],_::_::_,_,_,_,_,_,e=>by cases tys <;> (unfold vW at e;cases e)
def Ty.sv (t:Ty)(x:t.sem):SV:=cond t.one (.d t x) (.agg (t.svs x))
theorem oH (t:Ty)(x:t.sem):(t.sv x).enc=t.pv x:=by
 unfold Ty.sv Ty.pv;cases t.one <;> simp[SV.enc,fP]
omit [Yl] in
theorem qIS (t:Ty)(x:t.sem):(t.sv x).ok h:=by
 unfold Ty.sv;cases t.one
 ·simp only[cond_false,SV.ok];exact qE0 t x
 ·simp[SV.ok]
def svL:(ts:List Ty)->TyL ts->List SV
 | [],_=>[]
 | [t],x=>[t.sv x]
 | t::u::ts,x=>t.sv x.1::svL (u::ts) x.2
theorem qBS:∀ (ts:List Ty) (x:TyL ts),qB (svL ts x)=pvL ts x
 | [],_=>by simp[svL,pvL,qB]
 | [t],x=>by simp[svL,pvL,qB,oH]
 | t::u::ts,x=>by
   show qB (t.sv x.1::svL (u::ts) x.2)=t.pv x.1::pvL (u::ts) x.2;simp only[qB,oH,qBS (u::ts)]
omit [Yl] in
theorem qC0:∀ (ts:List Ty) (x:TyL ts),okL h (svL ts x)
 | [],_=>by simp[svL,okL]
 | [t],x=>by simp[svL,okL,qIS]
 | t::u::ts,x=>by
   show okL h (t.sv x.1::svL (u::ts) x.2);simp only[okL];exact⟨qIS t x.1,qC0 (u::ts) x.2⟩
def qKX (ts:List Ty)(x:TyL ts):SV:=match svL ts x with
 | [v]=>v
 | vs=>.tup vs
theorem qLR (ts:List Ty)(x:TyL ts):(qKX ts x).enc=jM ts x:=by
 unfold qKX jM;rw[<-qBS]
 match svL ts x with
 | []=>simp[qB,qD4,SV.enc]
 | [v]=>simp[qB,qD4]
 | a::b::l=>simp[qB,qD4,SV.enc]
omit [Yl] in
theorem qPE (ts:List Ty)(x:TyL ts):(qKX ts x).ok h:=by
 unfold qKX;have:=qC0 (h:=h) ts x;split
 ·rename_i v hv;rw[hv] at this;simp only[okL] at this;exact this.1
 ·simp only[SV.ok];exact this
def qO1 (tab:u6)(T:zV):Prop:=∀ g ent,slT g T=some ent->∀ x,tab g (pvL ent.as x)=(ent.F x).map (jM ent.rs)
def okc:FV->Bool
 | .v (.slice _ _ _)=>false
 | .v _=>true
 | .l _ _ _=>false
def _root_.Go.Sv.Ty.pln:Ty->Bool
 | .int _ | .bool | .str | .unit | .nif=>true
 | .pair a b=>Go.Sv.Ty.pln a&&Go.Sv.Ty.pln b
 | _=>false
omit [Yl] in
theorem oI:∀ (t:Ty) (x:t.sem),(t.cells x).all okc=t.pln
 | .int _,_=>rfl
 | .bool,_=>rfl
 | .str,_=>rfl
 | .unit,_=>rfl
 | .nif,_=>rfl
 | .raw,_=>rfl
 | .list _ _,_=>rfl
 | .ol _ _,xs=>by cases xs <;> rfl
 | .pair a b,x=>by
   show (a.cells x.1++b.cells x.2).all okc=(a.pln&&b.pln);rw[zSI,oI a,oI b]
omit [Yl] in
theorem qU5:∀ (cs:List FV),((qLZ (cs.map .f)).isSome&&(cs.map PV.f).all q7H)=cs.all okc
 | []=>rfl
 | c::cs=>by
   rw[zQB,<-qU5 cs,zPB,zQB]
   cases c with
   | l el n xs=>rfl
   | v x =>
     have e2:q7H (.f (.v x))=okc (.v x):=by cases x <;> rfl
     rw[e2,show qLZ (.f (.v x)::cs.map .f)=(match qLZ (cs.map .f) with
      | some vs=>some (x::vs)
      | none=>none) from rfl]
     cases qLZ (cs.map PV.f) with
     | none=>simp only[zTH,Bool.false_and,Bool.and_false]
     | some vs=>simp only[zR5,zTI]
omit [Yl] in
theorem qGJ (t:Ty)(x:t.sem):vG (t.pv x)=t.pln∧((pl (t.pv x)).isSome&&qUY (t.pv x))=t.pln:=by
 unfold Ty.pv
 cases ht:t.one with
 | true =>
   simp only[cond_true];have:=oI t x;rw[Ty.cells_one ht] at this;rw[<-this,zQB,List.all_nil,zQ8]
   cases hv:t.fv x with
   | l el n xs=>exact⟨rfl,rfl⟩
   | v y=>cases y <;> exact⟨rfl,rfl⟩
 | false =>
   simp only[cond_false];have:=qU5 (t.cells x);rw[oI] at this;refine⟨this,?_⟩;rw[<-this]
   show ((match qLZ ((t.cells x).map .f) with
    | some vs=>some (Value.agg vs.toArray)
    | none=>none).isSome&&((t.cells x).map PV.f).all q7H)=_
   cases qLZ ((t.cells x).map .f) <;> rfl
def zBP (ts:List Ty):Bool:=ts.all Ty.pln
omit [Yl] in
theorem qKT:∀ (ts:List Ty) (x:TyL ts),((plL (pvL ts x)).isSome&&(pvL ts x).all qUY)=zBP ts
 | [],_=>rfl
 | [t],x=>by
   show ((match pl (t.pv x) with
    | some v=>(match plL [] with
      | some vs=>some (v::vs)
      | none=>none)
    | none=>none).isSome&&((t.pv x)::[]).all qUY)=(t.pln&&true)
   rw[<- (qGJ t x).2,zQB];cases pl (t.pv x) <;> simp[plL]
 | t::u::ts,x=>by
   show ((match pl (t.pv x.1) with
    | some v=>(match plL (pvL (u::ts) x.2) with
      | some vs=>some (v::vs)
      | none=>none)
    | none=>none).isSome&&((t.pv x.1)::pvL (u::ts) x.2).all qUY)=(t.pln&&zBP (u::ts))
   rw[<- (qGJ t x.1).2,<-qKT (u::ts) x.2,zQB]
   cases pl (t.pv x.1) with
   | none=>simp
   | some v=>cases plL (pvL (u::ts) x.2) with
     | none=>simp
     | some vs=>simp
omit [Yl] in
theorem qKE (ts:List Ty)(x:TyL ts):vG (jM ts x)=zBP ts:=by
 unfold jM
 match ts,x with
 | [],x=>rfl
 | [t],x =>
   show vG (t.pv x)=(t.pln&&true);rw[(qGJ t x).1,zQ8]
 | t::u::ts,x =>
   have:=qKT (t::u::ts) x;cases ts <;> exact this
def qS0 (P:Program)(T:zV)(d:Bool)(g:FuncId)(as:List SV)(h:SH)(K:SV->SH->zFC R):zFC R:=match slT g T,P.funcs[g]? with
 | some ent,some fn=>(match vW P fn.params.toList ent.as as h with
   | some (x,h1)=>.bind (ent.F x) fun y=>cond d (cond (zBP ent.rs||(qB as).all qL3) (K (qKX ent.rs y) h) .fail) (K (qKX ent.rs y) (cond (zBP ent.rs) h h1))
   | none=>.fail)
 | _,_=>.fail
theorem q14 {T:zV}(ht:qO1 tab T){K:SV->SH->zFC R}(ho:OkH P h)(ha:okL h as)(e:(qS0 P T false g as h K).run=some r) :
 ∃ v h',aF P tab g (qB as) (qC h.l)=.ok v.enc (qC h'.l)∧Post P h h' v∧(K v h').run=some r:=by
 unfold qS0 at e;split at e
 ·rename_i ent fn hent hfn;split at e
  ·rename_i x h1 hx;obtain⟨y,hy,e1⟩:=run_bind e;obtain⟨ys,a1,a2,a3,a4⟩:=bW ho ha hx;have e2:(K (qKX ent.rs y) (cond (vG (jM ent.rs y)) h h1)).run=some r:=by rw[qKE];exact e1
   refine⟨_,_,?_,⟨?_,?_,qPE _ _⟩,e2⟩
   ·unfold aF;rw[a1];simp only;rw[show rtA P g ys=pvL ent.as x by unfold rtA;rw[hfn];exact a2,ht g ent hent x,hy];simp only[zO7,qLR];cases vG (jM ent.rs y) <;> rfl
   ·cases vG (jM ent.rs y)
    ·exact a3
    ·exact .refl _
   ·cases vG (jM ent.rs y)
    ·exact a4
    ·exact ho
  ·cases e
 ·cases e
theorem qUK {T:zV}(ht:qO1 tab T){K:SV->SH->zFC R}(ho:OkH P h)(ha:okL h as)(e:(qS0 P T true g as h K).run=some r) :
 ∃ v h',rP P tab g (qB as) (qC h.l)=.ok v.enc (qC h'.l)∧Post P h h' v∧(K v h').run=some r:=by
 unfold qS0 at e;split at e
 ·rename_i ent fn hent hfn;split at e
  ·rename_i x h1 hx;obtain⟨y,hy,e1⟩:=run_bind e;obtain⟨ys,a1,a2,a3,a4⟩:=bW ho ha hx;obtain⟨c,e2⟩:=qE (show (cond (vG (jM ent.rs y)||(qB as).all qL3) (K (qKX ent.rs y) h) .fail:zFC R).run=some r by rw[qKE];exact e1);refine⟨_,_,?_,⟨.refl _,ho,qPE _ _⟩,e2⟩;unfold rP;rw[a1];simp only;rw[show rtA P g ys=pvL ent.as x by unfold rtA;rw[hfn];exact a2,ht g ent hent x,hy];simp only[zO7,qLR,c,cond_true]
  ·cases e
 ·cases e
def rY (fv:SV)(args:List SV):Option (FuncId×List SV):=match fv with
 | .c (.func (.func g) a c)=>cond (a.toList.isEmpty&&c.toList.isEmpty) (some (g,args)) none
 | .fn g first cap=>some (g,first++(args++cap))
 | _=>none
theorem bZ {fv:SV}{args:List SV}(hf:fv.ok h)(ha:okL h args)(e:rY fv args=some (g,as)):target fv.enc (qB args)=some (g,qB as)∧okL h as:=by
 unfold rY at e;split at e
 ·rename_i g' a c
  cases hc:(a.toList.isEmpty&&c.toList.isEmpty) with
  | false=>rw[hc] at e;cases e
  | true =>
    rw[hc] at e;cases e;exact⟨by simp only[target,SV.enc,fvv,hc,cond_true],ha⟩
 ·rename_i g' first cap
  cases e;simp only[SV.ok] at hf;exact⟨by simp only[target,SV.enc,bV],fB hf.1 (fB ha hf.2)⟩
 ·cases e
def q35 (P:Program)(T:zV)(d:Bool)(f:SV)(args:List SV)(h:SH)(K:SV->SH->zFC R):zFC R:=match rY f args with
 | some (g,as)=>qS0 P T d g as h K
 | none=>.fail
def q0A (P:Program)(T:zV)(d:Bool)(k:Nat)(o:Oper)(env:List SV)(h:SH)(K:SV->SH->zFC R):zFC R:=match o.op with
 | .call ⟨.value f,args,_⟩=>q35 P T d (kC env f) (eT env args) h K
 | _=>sop P o env k h K
def qY9 (P:Program)(G:Nat->Bool)(CI:CIT):Prop:=∀ {R:Type} (nm:Nm) (f:FuncId) (as:List SV) (h:SH) (K:SV->SH->zFC R) (r:R),OkH P h->okL h as->(CI R nm f as h K).run=some r ->
 qD2 P G nm f (qB as) (qC h.l) fun v p=>∃ v' h',v=v'.enc∧p=qC h'.l∧Post P h h' v'∧(K v' h').run=some r
def qOW (p:Nat->Bool)(env:List SV):List (Nat×SO)->Bool
 | []=>true
 | (k,_)::l=>(!p k||zY k (qB env))&&qOW p env l
theorem qIY {p:Nat->Bool}{env:List SV}:∀ {l:List (Nat×SO)},qOW p env l=true->clean p (qB env) (qC l)=true
 | [],_=>rfl
 | (k,o)::l,h=>by
   have h:((!p k||zY k (qB env))&&qOW p env l)=true:=h;show ((!p k||zY k (qB env))&&clean p (qB env) (qC l))=true;rw[zOT] at h ⊢;exact⟨h.1,qIY h.2⟩
section
variable {Γ:Type}
def q38 (p:Nat->Bool):List (Nat×SO)->Bool
 | []=>true
 | (_,.cells _ _ l)::r=>sZ p (qB l)&&q38 p r
 | (_,.list _ _ _ _ _ _)::r=>q38 p r
 | (_,.spc _ (.mit _ j _ _ _))::r=>!(p j)&&q38 p r
 | (_,.spc _ (.map _))::r=>q38 p r
 | (_,.spc _ (.iter _ _))::r=>q38 p r
 | (_,.spc _ (.arr _ _ _))::r=>q38 p r
theorem qYU (p:Nat->Bool):∀ (cs:List FV),sZ p (cs.map .f)=true
 | []=>by simp[sZ]
 | c::cs=>by simp[sZ,noP,qYU p cs]
theorem qT2 (p:Nat->Bool):∀ (l:List Nat),sZ p (l.map iv)=true
 | []=>by simp[sZ]
 | c::cs=>by
   show (true&&sZ p (cs.map iv))=true;rw[qT2 p cs];rfl
theorem q0Z (p:Nat->Bool)(j si la:Nat)(seen:List Nat):sZ p (qF2 (.mp j) si la seen)=!(p j):=by
 show (!(p j)&&(true&&(true&&(sZ p (seen.map iv)&&true))))=_;rw[qT2];simp
theorem q2A (p:Nat->Bool)(c:Nat):∀ (es:List MapEntry),sZ p (kN c es)=true:=fun es=>by
 have:∀ es:List MapEntry,sZ p (qDW es)=true:=fun es=>by
  induction es with
  | nil=>rfl
  | cons e es ih=>exact ih
 exact this es
theorem nL {p:Nat->Bool}:∀ {l:List (Nat×SO)},q1B p (qC l)=q38 p l
 | []=>rfl
 | (j,.cells el w l)::r=>by
   show (sZ p (qB l)&&q1B p (qC r))=_;rw[nL];rfl
 | (j,.list el gr g w t xs)::r=>by
   show (sZ p ((xs.flatMap t.cells).map .f)&&q1B p (qC r))=_;rw[qYU,nL];rfl
 | (j,.spc w (.mit t i si la seen))::r=>by
   show (sZ p (qF2 (.mp i) si la seen)&&q1B p (qC r))=_;rw[q0Z,nL];rfl
 | (j,.spc w (.map es))::r=>by
   show (sZ p (kN _ _)&&q1B p (qC r))=_;rw[q2A,nL];rfl
 | (j,.spc w (.iter s pos))::r=>by
   show (sZ p (qC4 s pos)&&q1B p (qC r))=_;rw[show sZ p (qC4 s pos)=true from rfl,nL];rfl
 | (j,.spc w (.arr el ik xs))::r=>by
   show (sZ p (xs.map fun x=>fvv (.int ik x))&&q1B p (qC r))=_;rw[show (xs.map fun x=>fvv (.int ik x))=(xs.map fun x=>FV.v (.int ik x)).map .f by rw[zQ5];rfl,qYU,nL];rfl
def zBH (nm:Nm)(j:FuncId)(env:List SV)(h:SH):Bool:=sZ (inB (nm.b+wid nm.b*1000*(j+1))) (qB env)&&(((qC h.l).all fun x=>!inB (nm.b+wid nm.b*1000*(j+1)) x.1||nm.p x.1)&&q38 (zEL (nm.b+wid nm.b*1000*(j+1))) h.l)
theorem qMD {j:FuncId}{h:SH}:zBH nm j env h=q5D nm j (qB env) (qC h.l):=by
 unfold zBH q5D;rw[nL]
def q51 (nm:Nm)(g:FuncId)(env:List SV)(h:SH)(k:FuncId->zFC R):zFC R :=
 cond (zBH nm g env h) (k g) (cond (zBH nm (g+333) env h) (k (g+333)) (cond (zBH nm (g+666) env h) (k (g+666)) (k g)))
theorem q3T {h:SH}{k:FuncId->zFC R}:q51 nm g env h k=k (qJ3 nm g (qB env) (qC h.l)):=by
 unfold q51 qJ3;rw[qMD,qMD,qMD];cases q5D nm g (qB env) (qC h.l)
 ·cases q5D nm (g+333) (qB env) (qC h.l)
  ·cases q5D nm (g+666) (qB env) (qC h.l) <;> rfl
  ·rfl
 ·rfl
def q5I (P:Program)(T:zV)(CI:CIT)(Y:YI Γ)(nm:Nm)(f:SV)(args:List SV)(g:Γ)(env:List SV)(h:SH)(K:Γ->SV->SH->zFC R):zFC R:=match f with
 | .yv=>(match vW P Y.yt Y.ys args h with
   | some (y,h1)=>.bind (Y.stp g y) fun p=>K p.1 (.d .bool p.2) h1
   | none=>.fail)
 | f=>(match rY f args with
   | some (t,as)=>cond (slT t T).isSome (qS0 P T false t as h (K g)) (q51 nm t env h fun j=>CI R (qV3 nm j) t as h fun v h2=>cond (qOW (qV3 nm j).p env h2.l) (K g v h2) .fail)
   | none=>.fail)
def q47 (P:Program)(T:zV)(CI:CIT)(Y:YI Γ)(nm:Nm)(o:Oper)(g:Γ)(env:List SV)(h:SH)(K:Γ->SV->SH->zFC R):zFC R:=match o.op with
 | .call ⟨.value f,args,_⟩=>q5I P T CI Y nm (kC env f) (eT env args) g env h K
 | _=>zC3 P o env (qH nm o.dst) h (K g)
def YOk (P:Program)(G:Nat->Bool)(w:Wld Γ)(Y:YI Γ):Prop:=∀ g y g' b,Y.stp g y=some (g',b)->qLJ P G w Yl.l g (pvL Y.ys y) g' b
end
theorem qKC {T:zV}(ht:qO1 tab T){o:Oper}{K:SV->SH->zFC R}(ho:OkH P h)(he:okL h env)(e:(q0A P T true k o env h K).run=some r) :
 ∃ v h',zK P tab k o (qB env) (qC h.l)=.ok v.enc (qC h'.l)∧Post P h h' v∧(K v h').run=some r:=by
 unfold q0A at e;unfold zK;split at e
 ·rename_i f args ts hop;unfold q35 at e;split at e
  ·rename_i g as hst;obtain⟨h1,h2⟩:=bZ (mV he f) (fI he args) hst;obtain⟨v,h',a1,a2,a3⟩:=qUK ht ho h2 e;refine⟨v,h',?_,a2,a3⟩;simp only[hop,qN,gV,h1];exact a1
  ·cases e
 ·rename_i hne;obtain⟨v,h',a1,a2,a3⟩:=q4W ho he e;refine⟨v,h',?_,a2,a3⟩;split
  ·rename_i f args ts hop;exact absurd hop (hne f args ts)
  ·rw[a1];rfl
end
end Go.Sv
namespace Go.Sv
open Go.Idl
variable {d:Option Tmp}{el:TypeId}{env:List SV}{h:SH}{o:Oper}{t:Ty}{v x:SV}
noncomputable section
variable [Gc]
variable [Frs]
variable [Yl]
variable {P:Program}{R:Type}{r:R}{tab:u6}{G:Nat->Bool}{nm:Nm}
omit [Yl] in
theorem zFP {Q Q':List PV->PHp->Prop}(hq:∀ e p,Q e p->Q' e p):∀ {t:PT},t.holds P G Q->t.holds P G Q'
 | .fail,h=>h.elim
 | .ret e p,h=>hq e p h
 | .chk c t,h=>⟨h.1,zFP hq h.2⟩
 | .call nm g args ph k,h=>by
   obtain⟨R,h1,h2⟩:=h;exact⟨R,h1,fun v p hr=>zFP hq (h2 v p hr)⟩
 | .rnd _ _ _ _,h=>h.elim
omit [Yl] in
theorem qUZ (k:Nat):∀ (cs:List FV),zY k (cs.map .f)=true
 | []=>by simp[zY]
 | c::cs=>by simp[zY,noK,qUZ k cs]
def qFM (k:Nat):List (Nat×SO)->Bool
 | []=>true
 | (_,.cells _ _ l)::r=>zY k (qB l)&&qFM k r
 | (_,.list _ _ _ _ _ _)::r=>qFM k r
 | (_,.spc _ (.mit _ j _ _ _))::r=>!(k==j)&&qFM k r
 | (_,.spc _ (.map _))::r=>qFM k r
 | (_,.spc _ (.iter _ _))::r=>qFM k r
 | (_,.spc _ (.arr _ _ _))::r=>qFM k r
theorem qXX (k:Nat):∀ (l:List Nat),zY k (l.map iv)=true
 | []=>by simp[zY]
 | c::cs=>by
   show (true&&zY k (cs.map iv))=true;rw[qXX k cs];rfl
theorem q09 (k j si la:Nat)(seen:List Nat):zY k (qF2 (.mp j) si la seen)=!(k==j):=by
 show (!(k==j)&&(true&&(true&&(zY k (seen.map iv)&&true))))=_;rw[qXX];simp
theorem jX {k:Nat}:∀ {l:List (Nat×SO)},qFM k l=true->aD k (qC l)=true
 | [],_=>rfl
 | (j,.cells el w l)::r,h=>by
   simp only[qFM,zOT] at h;show (zY k (qB l)&&aD k (qC r))=true;rw[h.1,jX h.2];rfl
 | (j,.list el gr g w t xs)::r,h=>by
   simp only[qFM] at h;show (zY k ((xs.flatMap t.cells).map .f)&&aD k (qC r))=true;rw[qUZ,jX h];rfl
 | (j,.spc w (.mit t i si la seen))::r,h=>by
   simp only[qFM,zOT] at h;show (zY k (qF2 (.mp i) si la seen)&&aD k (qC r))=true;rw[q09,h.1,jX h.2];rfl
 | (j,.spc w (.map es))::r,h=>by
   simp only[qFM] at h;show (zY k (kN _ _)&&aD k (qC r))=true;rw[bU,jX h];rfl
 | (j,.spc w (.iter s pos))::r,h=>by
   simp only[qFM] at h;show (zY k (qC4 s pos)&&aD k (qC r))=true;rw[show zY k (qC4 s pos)=true from rfl,jX h];rfl
 | (j,.spc w (.arr el ik xs))::r,h=>by
   simp only[qFM] at h;show (zY k (xs.map fun x=>fvv (.int ik x))&&aD k (qC r))=true;rw[show (xs.map fun x=>fvv (.int ik x))=(xs.map fun x=>FV.v (.int ik x)).map .f by rw[zQ5];rfl,qUZ,jX h];rfl
def eH (env:List SV)(d:Option Tmp)(v:SV):List SV:=match d with
 | some t=>yP env t v
 | none=>env
theorem kE (env:List SV)(t:Nat)(v:SV):qB (yP env t v)=yP (qB env) t v.enc:=by
 rw[qV,qV,zD,zD,List.map_set]
theorem jE (env:List SV)(d:Option Tmp)(v:SV):qB (eH env d v)=yO (qB env) d v.enc:=by
 cases d with
 | none=>rfl
 | some t=>exact kE env t v
omit [Yl] in
theorem xE {t:Nat}(he:okL h env)(hv:v.ok h):okL h (yP env t v):=by
 rw[qV]
 exact zH.2 fun x hx=>by
  rcases zSJ hx with q | q
  ·exact zH.1 he x q
  ·rw[q];exact hv
omit [Yl] in
theorem wF (he:okL h env)(hv:v.ok h):okL h (eH env d v):=by
 cases d with
 | none=>exact he
 | some t=>exact xE he hv
omit [Yl] in
theorem jR (env:List SV)(t:Nat)(v:SV):(yP env t v).length=env.length:=by rw[qV,zQM]
omit [Yl] in
theorem q2N (env:List SV)(d:Option Tmp)(v:SV):(eH env d v).length=env.length:=by
 cases d with
 | none=>rfl
 | some t=>exact jR env t v
theorem qQC {t:Nat}{w:SV}(h1:zG env t=some v)(h2:w.enc=v.enc):qB (yP env t w)=qB env:=by
 rw[kE,qV];rw[qF] at h1;apply zQF;intro i;rw[zPM];by_cases e:t=i
 ·subst e;rw[if_pos rfl,zD,zO9,h1,zO5,if_pos (zOZ.1 h1).1,h2];rfl
 ·rw[if_neg e]
def yB (b w:Bool):Bool:=cond w b (!b)
omit [Yl] in
theorem qQZ (b w:Bool):yB b w=(b==w):=by cases b <;> cases w <;> rfl
def qCI (ds:List (Option Tmp))(o:Oper)(env:List SV)(Y N:List SV->zFC R):zFC R:=match o.guard with
 | none=>Y env
 | some (j,w)=>(match qR5 ds j with
   | none=>N env
   | some t=>(match zG env t with
     | none=>.fail
     | some v=>(match asB v with
       | some b=>.ite (yB b w) (Y (yP env t (.c (.bool w)))) (N (yP env t (.c (.bool (!w)))))
       | none=>(match v with
         | .tup []=>N env
         | _=>.fail))))
theorem sW {ds:List (Option Tmp)}{Y N:List SV->zFC R}(he:okL h env)(e:(qCI ds o env Y N).run=some r) :
 ∃ env',qB env'=qB env∧okL h env'∧env'.length=env.length∧((vO ds o (qB env)=some true∧(Y env').run=some r)∨(vO ds o (qB env)=some false∧(N env').run=some r)):=by
 unfold qCI at e;unfold vO;split at e
 ·rename_i hg;exact⟨env,rfl,he,rfl,.inl ⟨by rw[hg],e⟩⟩
 ·rename_i j w hg;rw[hg];simp only;split at e
  ·rename_i hd;exact⟨env,rfl,he,rfl,.inr ⟨by rw[hd];rfl,e⟩⟩
  ·rename_i t hd;rw[hd];simp only[qM3,qW];split at e
   ·cases e
   ·rename_i v hv;rw[hv];split at e
    ·rename_i b hb;have hbe:=sN hb
     rcases run_ite e with ⟨z,e1⟩ | ⟨z,e1⟩
     ·rw[qQZ] at z;have:b=w:=by simpa using z
      subst this;refine⟨_,qQC hv (by rw[hbe];simp[SV.enc]),xE he (by simp[SV.ok]),jR _ _ _,.inl ⟨?_,e1⟩⟩;simp only[zO7,hbe,qA5,z]
     ·rw[qQZ] at z
      have:b=!w:=by cases b <;> cases w <;> first | rfl | cases z
      refine⟨_,qQC hv (by rw[hbe,this];simp[SV.enc]),xE he (by simp[SV.ok]),jR _ _ _,.inr ⟨?_,e1⟩⟩;simp only[zO7,hbe,qA5,z]
    ·split at e
     ·exact⟨env,rfl,he,rfl,.inr ⟨by simp only[zO7,SV.enc,qB];exact qSV,e⟩⟩
     ·cases e
def qFO (nm:Nm)(k:Nat)(env:List SV)(h:SH):Bool:=inP nm k&&(zY k (qB env)&&qFM k h.l)
section
variable {Γ:Type}
def qZQ (P:Program)(T:zV)(CI:CIT)(Y:YI Γ)(nm:Nm)(ds:List (Option Tmp)):List Oper->Γ->List SV->SH->(Γ->List SV->SH->zFC R)->zFC R
 | [],g,env,h,K=>K g env h
 | o::l,g,env,h,K=>qCI ds o env
    (fun env=>cond (cond (needs o.op) (qFO nm (qH nm o.dst) env h) true) (q47 P T CI Y nm o g env h fun g v h'=>qZQ P T CI Y nm ds l g (eH env o.dst v) h' K) .fail)
    (fun env=>qZQ P T CI Y nm ds l g (eH env o.dst (.tup [])) h K)
end
def Ends (P:Program)(w:List (Option Tmp))(env:List SV)(h:SH)(env':List SV)(h':SH):Prop :=
 okL h' env'∧OkH P h'∧Keep h h'∧(∀ i,some i ∉ w->zG (qB env') i=zG (qB env) i)∧env'.length=env.length
theorem q8N {i:Nat}(h:d≠some i):zG (qB (eH env d v)) i=zG (qB env) i:=by
 cases d with
 | none=>rfl
 | some t =>
   show zG (qB (yP env t v)) i=_;rw[kE,qV,qF,qF,zPM,if_neg (fun e=>h (by rw[e]))]
theorem Ends.step {w:List (Option Tmp)}{zFH:List SV}{h1:SH}{env':List SV}{h':SH}(he:qB env=qB zFH)(hl:env.length=zFH.length)(hk:Keep h h1)(x:Ends P w (eH env o.dst v) h1 env' h'):Ends P (o.dst::w) zFH h env' h' :=
 ⟨x.1,x.2.1,hk.trans x.2.2.1,fun i hi=>by
   rw[zPE,not_or] at hi
   rw[x.2.2.2.1 i hi.2,q8N (fun e=>hi.1 e.symm),he],by rw[x.2.2.2.2,q2N,hl]⟩
omit [Yl] in
theorem kR {Γ:Type}{w:Wld Γ}{Q Q':Γ->List PV->PHp->Prop}(hq:∀ g e p,Q g e p->Q' g e p):∀ {t:PT} {g:Γ},t.zGC P G w Q g->t.zGC P G w Q' g
 | .fail,_,h=>h.elim
 | .ret e p,g,h=>hq g e p h
 | .chk c t,g,h=>⟨h.1,kR hq h.2⟩
 | .call nm f args ph k,g,h=>by
   obtain⟨R,h1,h2⟩:=h;exact⟨R,h1,fun v p hr=>kR hq (h2 v p hr)⟩
 | .rnd l args ph k,g,h=>by
   obtain⟨zGJ,tys,ph1,g',b,h1,h2,h3⟩:=h;exact⟨zGJ,tys,ph1,g',b,h1,h2,kR hq h3⟩
def qZ3 (T:zV)(f:FuncId):Bool:=!(slT f T).isSome
theorem qH7 {Γ:Type}{w:Wld Γ}{T:zV}{CI:CIT}{Y:YI Γ}(ht:qO1 tab T)(hci:qY9 P G CI)(hy:YOk P G w Y){ds:List (Option Tmp)}:∀ {l:List Oper} {g:Γ} {env:List SV} {h:SH} {K:Γ->List SV->SH->zFC R},OkH P h->okL h env->(qZQ P T CI Y nm ds l g env h K).run=some r ->
 (pops P tab (qZ3 T) nm ds l (qB env) (qC h.l)).zGC P G w (fun g e p=>∃ env' h',e=qB env'∧p=qC h'.l∧Ends P (l.map (·.dst)) env h env' h'∧(K g env' h').run=some r) g
 | [],g,env,h,K,ho,he,e=>⟨env,h,rfl,rfl,⟨he,ho,.refl _,fun _ _=>rfl,rfl⟩,e⟩
 | o::l,g,env,h,K,ho,he,e=>by
   unfold qZQ at e;obtain⟨zFI,q1,q2,q3,q4⟩:=sW he e;rw[qVR]
   rcases q4 with ⟨hw,e1⟩ | ⟨hw,e1⟩
   ·rw[hw,q3R];obtain⟨c,e2⟩:=qE e1
    have next:∀ {g':Γ} {v:SV} {h':SH},Post P h h' v->(qZQ P T CI Y nm ds l g' (eH zFI o.dst v) h' K).run=some r->(pops P tab (qZ3 T) nm ds l (yO (qB env) o.dst v.enc) (qC h'.l)).zGC P G w (fun g e p=>∃ env' h',e=qB env'∧p=qC h'.l∧Ends P ((o::l).map (·.dst)) env h env' h'∧(K g env' h').run=some r) g':=fun {g' v h'} a2 a3=>by
     have ih:=qH7 ht hci hy a2.2.1 (wF (d:=o.dst) (qI a2.1 q2) a2.2.2) a3;rw[jE,q1] at ih;exact kR (fun g e p ⟨env',h',b1,b2,b3,b4⟩=>⟨env',h',b1,b2,Ends.step q1 q3 a2.1 b3,b4⟩) ih
    have chk:∀ {g':Γ} {v:SV} {h':SH},Post P h h' v->(qZQ P T CI Y nm ds l g' (eH zFI o.dst v) h' K).run=some r->(q88 (needs o.op) (qH nm o.dst) nm (qB env) (qC h.l) (pops P tab (qZ3 T) nm ds l (yO (qB env) o.dst v.enc) (qC h'.l))).zGC P G w (fun g e p=>∃ env' h',e=qB env'∧p=qC h'.l∧Ends P ((o::l).map (·.dst)) env h env' h'∧(K g env' h').run=some r) g':=fun {g' v h'} a2 a3=>by
     unfold q88
     cases hn:needs o.op with
     | false=>exact next a2 a3
     | true =>
       rw[hn] at c;simp only[cond_true] at c ⊢;refine⟨?_,next a2 a3⟩;unfold qFO at c;rw[q1] at c;simp only[zOT] at c;unfold fresh;rw[c.1,c.2.1,jX c.2.2];rfl
    unfold q47 at e2;split at e2
    ·rename_i f args ts hop
     have hpe:bI P tab (qZ3 T) (qH nm o.dst) o (qB env) (qC h.l)=oZ P tab (qZ3 T) (kC zFI f).enc (qB (eT zFI args)) (qC h.l):=by
      unfold bI;rw[<-q1];simp only[hop,qN,gV]
     rw[hpe];have hfv:=mV q2 f;have has:=fI q2 args
     revert e2 hfv
     generalize kC zFI f=fv;intro e2 hfv;unfold q5I at e2;split at e2
     ·split at e2
      ·rename_i y h1 hd;obtain⟨p,hp,e3⟩:=run_bind e2;obtain⟨g',b⟩:=p;obtain⟨ys,a1,a2,a3,a4⟩:=bW ho has hd
       have:oZ P tab (qZ3 T) (SV.enc .yv) (qB (eT zFI args)) (qC h.l)=.rnd Yl.l (qB (eT zFI args)) (qC h.l):=by
        simp only[SV.enc,oZ]
       rw[this,qZE];refine⟨ys,Y.yt,qC h1.l,g',b,a1,?_,?_⟩
       ·rw[a2];exact hy _ _ _ _ hp
       ·have:=next (v:=.d .bool b) ⟨a3,a4,by simp[SV.ok]⟩ e3;simpa [SV.enc,Ty.fv,fvv] using this
      ·cases e2
     ·split at e2
      ·rename_i t as hst;obtain⟨h1,h2⟩:=bZ hfv has hst;rw[qLD h1];unfold mO qZ3
       cases hsl:(slT t T).isSome with
       | true =>
         rw[hsl] at e2;simp only[cond_true] at e2;obtain⟨v,h',a1,a2,a3⟩:=q14 ht ho h2 e2;simp only[zSV,cond_false];rw[a1,qQ8];exact chk a2 a3
       | false =>
         rw[hsl] at e2;simp only[cond_false] at e2;simp only[Bool.not_false,cond_true];rw[qSR];rw[q3T,q1] at e2;refine⟨_,hci _ _ _ _ _ _ ho h2 e2,?_⟩;rintro v p ⟨v',h',rfl,rfl,a2,a3⟩;obtain⟨c2,a4⟩:=qE a3;have:=qIY c2;rw[q1] at this;exact⟨this,next a2 a4⟩
      ·cases e2
    ·rename_i hne;obtain⟨v,h',a1,a2,a3⟩:=q6S ho q2 e2;rw[q1] at a1
     have hpe:bI P tab (qZ3 T) (qH nm o.dst) o (qB env) (qC h.l)=.ok v.enc (qC h'.l):=by
      unfold bI;split
      ·rename_i f args ts hop;exact absurd hop (hne f args ts)
      ·rw[a1];rfl
     rw[hpe,qQ8];exact chk a2 a3
   ·rw[hw,qVG];have ih:=qH7 ht hci hy ho (wF (d:=o.dst) (v:=.tup []) q2 (by simp[SV.ok,okL])) e1;rw[jE,q1] at ih;simp only[SV.enc,qB] at ih;exact kR (fun g e p ⟨env',h',b1,b2,b3,b4⟩=>⟨env',h',b1,b2,Ends.step q1 q3 (.refl _) b3,b4⟩) ih
def qUQ (P:Program)(T:zV)(nm:Nm)(ds:List (Option Tmp))(b:DB)(zFH:List SV):Nat->List Oper->List SV->SH->List (Nat×List Nat)->List (Nat×List Nat)->List (Nat×Nat)->List (Nat×PV)->(List SV->SH->zFC R)->zFC R
 | i,[],env,h,E,F,N,V,K=>cond (mQ b (qB zFH) E F N V) (K env h) .fail
 | i,o::l,env,h,E,F,N,V,K=>qCI ds o env
    (fun env=>cond (cond (needs o.op) (inP nm (qH nm o.dst)&&qFM (qH nm o.dst) h.l) true) (q0A P T true (qH nm o.dst) o env h fun v h' =>
      qUQ P T nm ds b zFH (i+1) l (eH env o.dst v) h' (cond (qZ o) ((i,wlT nm o (qB env))::E) E) (cond (qZ o) F ((i,dlT o (qB env))::F)) (cond (needs o.op) ((i,qH nm o.dst)::N) N) ((i,v.enc)::V) K) .fail)
    (fun env=>qUQ P T nm ds b zFH (i+1) l (eH env o.dst (.tup [])) h E F N ((i,.tup [])::V) K)
theorem qGY {T:zV}(ht:qO1 tab T){ds:List (Option Tmp)}{b:DB}{zFH:List SV}:∀ {l:List Oper} {i:Nat} {env:List SV} {h:SH} {E F:List (Nat×List Nat)} {N:List (Nat×Nat)} {V:List (Nat×PV)} {K:List SV->SH->zFC R},OkH P h->okL h env->(qUQ P T nm ds b zFH i l env h E F N V K).run=some r ->
 (qL0 P tab nm ds b (qB zFH) i l (qB env) (qC h.l) E F N V).holds P G fun e p=>∃ env' h',e=qB env'∧p=qC h'.l∧Ends P (l.map (·.dst)) env h env' h'∧(K env' h').run=some r
 | [],i,env,h,E,F,N,V,K,ho,he,e=>by
   unfold qUQ at e;obtain⟨c,e1⟩:=qE e;rw[q1I];exact⟨c,env,h,rfl,rfl,⟨he,ho,.refl _,fun _ _=>rfl,rfl⟩,e1⟩
 | o::l,i,env,h,E,F,N,V,K,ho,he,e=>by
   unfold qUQ at e;obtain⟨zFI,q1,q2,q3,q4⟩:=sW he e;rw[qXG]
   rcases q4 with ⟨hw,e1⟩ | ⟨hw,e1⟩
   ·rw[hw,qX4];obtain⟨c,e2⟩:=qE e1;obtain⟨v,h',a1,a2,a3⟩:=qKC ht ho q2 e2;rw[q1] at a1;rw[a1,qW0];have ih:=qGY ht a2.2.1 (wF (d:=o.dst) (qI a2.1 q2) a2.2.2) a3;rw[jE,q1] at ih;have ih2:=zFP (Q':=fun e p=>∃ env' h',e=qB env'∧p=qC h'.l∧Ends P ((o::l).map (·.dst)) env h env' h'∧(K env' h').run=some r) (fun e p ⟨env',h',b1,b2,b3,b4⟩=>⟨env',h',b1,b2,Ends.step q1 q3 a2.1 b3,b4⟩) ih;unfold qBG
    cases hn:needs o.op with
    | false=>rw[hn] at ih2;exact ih2
    | true =>
      rw[hn] at c ih2;simp only[cond_true] at c ⊢;refine⟨?_,ih2⟩;rw[zOT] at c;rw[c.1,jX c.2];rfl
   ·rw[hw,qSQ];have ih:=qGY ht ho (wF (d:=o.dst) (v:=.tup []) q2 (by simp[SV.ok,okL])) e1;rw[jE,q1] at ih;simp only[SV.enc,qB] at ih;exact zFP (fun e p ⟨env',h',b1,b2,b3,b4⟩=>⟨env',h',b1,b2,Ends.step q1 q3 (.refl _) b3,b4⟩) ih
def qKH (R:List Nat)(l:List (Nat×SO)):List (Nat×SO):=R.filterMap fun k=>(slk k l).map fun o=>(k,o)
theorem qA9 {l:List (Nat×SO)}:∀ (R:List Nat),qC (qKH R l)=bH R (qC l)
 | []=>rfl
 | k::R=>by
   have ih:=qA9 (l:=l) R;unfold qKH bH at ih ⊢;rw[zTE,zTE,vJ]
   cases hk:slk k l with
   | none=>simp only[zTA];exact ih
   | some o =>
     simp only[zO7];show (k,o.enc)::qC _=_;rw[ih]
def zDB (b:Array Nat)(h0:List (Nat×SO))(zFH:List PV)(E F:List (Nat×List Nat))(N:List (Nat×Nat))(V:List (Nat×PV))(O:List (Nat×List (Nat×SO))):Bool :=
 (E.all fun e=>(E++F).all fun f=>Nat.beq e.1 f.1||(qO5 b e.1 f.1||f.2.all fun l=>!e.2.contains l)) &&
   N.all fun n=>zY n.2 zFH&&(qFM n.2 h0&&((V.all fun v=>Nat.beq v.1 n.1||(vQ b n.1 v.1||noK n.2 v.2))&&O.all fun c=>Nat.beq c.1 n.1||(vQ b n.1 c.1||qFM n.2 c.2)))
def q05 (O:List (Nat×List (Nat×SO))):List (Nat×PHp):=O.map fun c=>(c.1,qC c.2)
theorem q67 {b:Array Nat}{h0:List (Nat×SO)}{zFH:List PV}{E F:List (Nat×List Nat)}{N:List (Nat×Nat)}{V:List (Nat×PV)}{O:List (Nat×List (Nat×SO))}(h:zDB b h0 zFH E F N V O=true):q9J b (qC h0) zFH E F N V (q05 O)=true:=by
 unfold zDB at h;unfold q9J;rw[zOT] at h ⊢;refine⟨h.1,zOW.2 fun n hn=>?_⟩;have h2:=zOW.1 h.2 n hn;rw[zOT,zOT,zOT] at h2 ⊢;refine⟨h2.1,jX h2.2.1,h2.2.2.1,zOW.2 fun c hc=>?_⟩;obtain⟨c0,hc0,rfl⟩:=zPL.1 hc;have h3:=zOW.1 h2.2.2.2 c0 hc0;rw[zPZ,zPZ] at h3 ⊢;rcases h3 with h | h | h
 ·exact .inl h
 ·exact .inr (.inl h)
 ·exact .inr (.inr (jX h))
def q0K (l:List (Nat×SO)):PV->Bool
 | .own k _ _ _=>(match slk k l with
   | some (.list _ _ _ _ _ _)=>true
   | _=>false)
 | x=>qL3 x
theorem qQ9 {l:List (Nat×SO)}{x:PV}(h:q0K l x=true):qK5 (qC l) x=true:=by
 cases x with
 | own k t o n =>
   unfold q0K at h;unfold qK5;simp only at h ⊢;rw[vJ];split at h
   ·rename_i el gr g w u xs hk;rw[hk];simp only[zO7];show (((List.flatMap u.cells xs).map PV.f).all qTQ)=true;rw[zOW];intro z hz;obtain⟨y,_,rfl⟩:=zPL.1 hz;rfl
   ·cases h
 | _=>exact h
def qXI (o:Oper)(env:List PV):Bool:=match o.op with
 | .call ⟨.value f,args,_⟩=>(match target (qJ env f) (args.toList.map (qJ env)) with
   | some (g,_)=>(match Frs.fr g with
     | none=>true
     | some _=>false)
   | none=>true)
 | _=>true
theorem q07 {env:List PV}(h:qXI o env=true):pfr o env=none:=by
 cases hp:pfr o env with
 | none=>rfl
 | some q =>
   obtain⟨el,n,cs⟩:=q;obtain⟨f,args,ts,g,hop,ht,hg⟩:=qOE hp;unfold qXI at h;rw[hop] at h;simp only[ht,hg] at h;cases h
def sfr (o:Oper)(env:List SV):Option SV:=match o.op with
 | .call ⟨.value f,args,_⟩=>(match rY (kC env f) (eT env args) with
   | some (g,[.d (.list el t) xs])=>(match Frs.fr g with
     | some el'=>cond (Nat.beq el el') (some (.d (.list el t) xs)) none
     | none=>none)
   | _=>none)
 | _=>none
theorem zAY (he:okL h env)(e:sfr o env=some x):∃ el t,∃ xs:List (Ty.sem t),x=.d (.list el t) xs∧pfr o (qB env)=some (el,xs.length,xs.flatMap t.cells):=by
 unfold sfr at e;split at e
 case h_2=>cases e
 rename_i f args ts hop;split at e
 case h_2=>cases e
 rename_i g el t xs hst;split at e
 case h_2=>cases e
 rename_i el' hg
 cases hc:Nat.beq el el' with
 | false=>rw[hc] at e;cases e
 | true =>
   rw[hc] at e;cases e;obtain⟨h1,_⟩:=bZ (mV he f) (fI he args) hst;refine⟨el,t,xs,rfl,?_⟩;unfold pfr;rw[hop];simp only[qN,gV,h1,qB,SV.enc,Ty.fv,hg,hc,cond_true]
def frT (P:Program)(el:TypeId)(w:Nat)(t:Ty):Bool:=match szT P el,t with
 | some (s+1),.int k=>Nat.beq w (s+1)&&(jA P el&&decide (k=Frs.fk))
 | _,_=>false
theorem qWC {k:IntKind}:∀ (xs:List Int),(List.flatMap (Ty.int k).cells xs).all (isK k)=true
 | []=>rfl
 | x::xs=>by
   rw[zPO,zSI,qWC xs];simp[Ty.cells,isK]
theorem qWO {xs:List t.sem}(h:frT P el t.w t=true)(hn:Nat.ble xs.length 1048576=true):qL8 P el xs.length (xs.flatMap t.cells)=true:=by
 unfold frT at h;unfold qL8;split at h
 ·rename_i s k hs;rw[zOT,zOT] at h;have hw:=zOU h.1;have hk:k=Frs.fk:=of_decide_eq_true h.2.2;subst hk;rw[hs];have h1:(List.flatMap (Ty.int Frs.fk).cells xs).length=xs.length*(s+1):=by rw[zR,hw]
  have h2:(List.flatMap (Ty.int Frs.fk).cells xs).all (isK Frs.fk)=true:=qWC xs;show (Nat.beq (xs.length*(s+1)) (List.flatMap (Ty.int Frs.fk).cells xs).length&&(Nat.ble xs.length 1048576&&(jA P el&&(List.flatMap (Ty.int Frs.fk).cells xs).all (isK Frs.fk))))=true;rw[h1,h2,hn,h.2.1,zS3];rfl
 ·cases h
theorem zDE {w:Nat}(h:frT P el w t=true):szT P el=some w∧0 < w:=by
 unfold frT at h;split at h
 ·rename_i s k hs;rw[zOT] at h;have hw:=zOU h.1;rw[hw];exact⟨hs,Nat.succ_pos _⟩
 ·cases h
def zDN (P:Program)(el:TypeId)(t:Ty)(v:SV)(h:SH):Option SV:=match v with
 | .own k g _=>(match q0T el t k g (fun xs=>xs) h with
   | some (xs,_)=>some (.d (.list el t) xs)
   | none=>none)
 | .sl k g _ o m=>(match q0T el t k g (fun xs=>(xs.drop o).take m) h with
   | some (xs,_)=>some (.d (.list el t) xs)
   | none=>none)
 | _=>none
def scp (P:Program)(o:Oper)(env:List SV)(h:SH):Option SV:=match o.op with
 | .call ⟨.value f,args,_⟩=>(match rY (kC env f) (eT env args) with
   | some (g,[v])=>(match Frs.fr g with
     | some el=>(match qC3 P 8 el with
       | some t=>zDN P el t v h
       | none=>none)
     | none=>none)
   | _=>none)
 | _=>none
theorem q6L {t:Ty}(ho:OkH P h)(hv:v.ok h)(e:zDN P el t v h=some x):∃ xs:List t.sem,x=.d (.list el t) xs∧(∃ ph1,fzA P [v.enc] (qC h.l)=some ([.f (.l el xs.length (xs.flatMap t.cells))],ph1))∧∃ k t' o n,v.enc=.own k t' o n:=by
 have key:∀ {k n o m:Nat} {xs:List t.sem} {ph1:PHp},fz1 P 4 (qC h.l) (.own k n o m)=some ((Ty.list el t).fv xs,ph1)->fzA P [.own k n o m] (qC h.l)=some ([.f (.l el xs.length (xs.flatMap t.cells))],ph1):=fun {k n o m xs ph1} hz=>by
  unfold fzA fzP;simp only[hz,fzA];rfl
 unfold zDN at e;split at e
 ·rename_i k g n;split at e
  ·rename_i xs h' hd;cases e;simp only[SV.ok] at hv;obtain⟨h1,_⟩:=qHQ (ty:=0) (n:=n) (o:=0) (m:=n) ho hv (by omega) (fun xs hl=>by rw[zQH,<-hl,zRX]) hd;exact⟨xs,rfl,⟨_,by simp only[SV.enc];exact key h1⟩,_,_,_,_,by simp only[SV.enc];rfl⟩
  ·cases e
 ·rename_i k g n o m;split at e
  ·rename_i xs h' hd;cases e;simp only[SV.ok] at hv;obtain⟨h1,_⟩:=qHQ (ty:=0) (n:=n) (o:=o) (m:=m) ho hv.1 hv.2 (fun xs hl=>rfl) hd;exact⟨xs,rfl,⟨_,by simp only[SV.enc];exact key h1⟩,_,_,_,_,by simp only[SV.enc];rfl⟩
  ·cases e
 ·cases e
theorem q9K (ho:OkH P h)(he:okL h env)(e:scp P o env h=some x):∃ el t,∃ xs:List (Ty.sem t),x=.d (.list el t) xs∧pfr o (qB env)=none∧(∃ f args ts,o.op=.call ⟨.value f,args,ts⟩) ∧
 (qL8 P el xs.length (xs.flatMap t.cells)=true->pcp P o (qB env) (qC h.l)=some (.l el xs.length (xs.flatMap t.cells))):=by
 unfold scp at e;split at e
 case h_2=>cases e
 rename_i f args ts hop;split at e
 case h_2=>cases e
 rename_i g v hst;split at e
 case h_2=>cases e
 rename_i el hg;split at e
 case h_2=>cases e
 rename_i t ht;obtain⟨h1,h2⟩:=bZ (mV he f) (fI he args) hst;simp only[okL] at h2;obtain⟨xs,rfl,⟨ph1,hz⟩,k,t',o',n',hv⟩:=q6L ho h2.1 e
 have htg:target (qJ (qB env) f) (args.toList.map (qJ (qB env)))=some (g,[v.enc]):=by
  simp only[qN,gV,h1,qB]
 refine⟨el,t,xs,rfl,?_,⟨f,args,ts,hop⟩,fun hfo=>?_⟩
 ·unfold pfr;rw[hop];simp only[htg,hv]
 ·unfold pcp;rw[hop];simp only[htg,hg,hz];unfold zCB;simp only[hfo,show Nat.beq el el=true by simp,zPQ,cond_true]
theorem qZ0 {env:List PV}{ph:PHp}(h:qXI o env=true):pcp P o env ph=none:=by
 cases hq:pcp P o env ph with
 | none=>rfl
 | some y =>
   obtain⟨f,args,ts,g,as,el,n,cs,p1,hop,ht,hg,_⟩:=rU hq;unfold qXI at h;rw[hop] at h;simp only[ht,hg] at h;cases h
def zEC (ops:Array Oper):Bool:=ops.toList.any fun o=>match o.op with
 | .call ⟨.value (.func g),_,_⟩=>(Frs.fr g).isSome
 | _=>false
def qD0 (P:Program)(T:zV)(nm:Nm)(ds:List (Option Tmp))(b:Array Nat)(zFH:List SV)(h0:SH):Nat->List Oper->List SV->SH->List (Nat×List Nat)->List (Nat×List Nat)->List (Nat×Nat)->List (Nat×PV)->List (Nat×List (Nat×SO))->(List SV->SH->zFC R)->zFC R
 | i,[],env,h,E,F,N,V,O,K=>cond (zDB b h0.l (qB zFH) E F N V O) (K env h) .fail
 | i,o::l,env,h,E,F,N,V,O,K=>qCI ds o env
    (fun env=>match scp P o env h with
     | some (.d (.list el t) xs)=>cond (frT P el t.w t&&(nQ o (qB env)).all (q0K h.l)) (.ite (Nat.ble xs.length 1048576)
        (qD0 P T nm ds b zFH h0 (i+1) l (eH env o.dst (.d (.list el t) xs)) h E ((i,dlC o (qB env))::F) N ((i,(SV.d (.list el t) xs).enc)::V) O K) .fail) .fail
     | some _=>.fail
     | none=>match sfr o env with
      | some (.d (.list el t) xs)=>cond (frT P el t.w t&&inP nm (qH nm o.dst)) (.ite (Nat.beq xs.length 0)
         (qD0 P T nm ds b zFH h0 (i+1) l (eH env o.dst (.d (.list el t) [])) h E ((i,dlC o (qB env))::F) N ((i,.f (.l el 0 []))::V) O K)
         (.ite (Nat.ble xs.length 1048576)
           (qD0 P T nm ds b zFH h0 (i+1) l (eH env o.dst (.own (qH nm o.dst) h.next xs.length)) (h.new (qH nm o.dst) fun v=>.list el true v v t xs) ((i,[qH nm o.dst])::E) F ((i,qH nm o.dst)::N) ((i,.own (qH nm o.dst) xs.length 0 xs.length)::V)
             ((i,qKH [qH nm o.dst] (h.new (qH nm o.dst) fun v=>.list el true v v t xs).l)::O) K) .fail)) .fail
      | some _=>.fail
      | none=>cond ((qXI o (qB env)&&(okE o||(!qZ o||kF o)))&&((nQ o (qB env)).all (q0K h.l)&&cond (needs o.op) (inP nm (qH nm o.dst)) true)) (q0A P T true (qH nm o.dst) o env h fun v h' =>
      qD0 P T nm ds b zFH h0 (i+1) l (eH env o.dst v) h' (cond (okE o) ((i,RC o (qH nm o.dst) (qB env))::E) E) (cond (okE o) F ((i,dlC o (qB env))::F)) (cond (needs o.op) ((i,qH nm o.dst)::N) N) ((i,v.enc)::V) (cond (okE o) ((i,qKH (RC o (qH nm o.dst) (qB env)) h'.l)::O) O) K) .fail)
    (fun env=>qD0 P T nm ds b zFH h0 (i+1) l (eH env o.dst (.tup [])) h E F N ((i,.tup [])::V) O K)
theorem dS {T:zV}(ht:qO1 tab T){ds:List (Option Tmp)}{b:Array Nat}{zFH:List SV}{h0:SH}:∀ {l:List Oper} {i:Nat} {env:List SV} {h:SH} {E F:List (Nat×List Nat)} {N:List (Nat×Nat)} {V:List (Nat×PV)} {O:List (Nat×List (Nat×SO))} {K:List SV->SH->zFC R},OkH P h->okL h env->(qD0 P T nm ds b zFH h0 i l env h E F N V O K).run=some r ->
 (qLO P tab nm ds b (qB zFH) (qC h0.l) i l (qB env) (qC h.l) E F N V (q05 O)).holds P G fun e p=>∃ env' h',e=qB env'∧p=qC h'.l∧Ends P (l.map (·.dst)) env h env' h'∧(K env' h').run=some r
 | [],i,env,h,E,F,N,V,O,K,ho,he,e=>by
   unfold qD0 at e;obtain⟨c,e1⟩:=qE e;exact⟨q67 c,env,h,rfl,rfl,⟨he,ho,.refl _,fun _ _=>rfl,rfl⟩,e1⟩
 | o::l,i,env,h,E,F,N,V,O,K,ho,he,e=>by
   unfold qD0 at e;obtain⟨zFI,q1,q2,q3,q4⟩:=sW he e;unfold qLO vK
   rcases q4 with ⟨hw,e1⟩ | ⟨hw,e1⟩
   ·rw[hw];simp only;split at e1
    ·rename_i el t xs hsc;obtain⟨el',t',xs',hx,hpf,⟨f,args,ts,hop⟩,hcp⟩:=q9K ho q2 hsc;cases hx;rw[q1] at hpf hcp;obtain⟨c,e2⟩:=qE e1;rw[zOT] at c
     rcases run_ite e2 with ⟨z,e3⟩ | ⟨_,e3⟩
     ·have hcp:=hcp (qWO c.1 z);have c2:xH o (qB env) (qC h.l)=true:=zOW.2 fun x hx=>qQ9 (zOW.1 c.2 x (by rw[q1];exact hx))
      have hfr:qEU o (qB env)=false:=by unfold qEU;rw[hpf]
      have zH1:okF o (qB env)=false:=by unfold okF okE;rw[hop,hfr];rfl
      have zH2:ndF o (qB env)=false:=by unfold ndF needs;rw[hop,hfr];rfl
      rw[tH hpf hcp c2];simp only[zH1,zH2,cond_false];unfold qBG;simp only[cond_false];have ih:=dS ht ho (wF (d:=o.dst) (v:=.d (.list el t) xs) q2 (by simp[SV.ok])) e3;rw[jE,q1] at ih;exact zFP (Q':=fun e p=>∃ env' h',e=qB env'∧p=qC h'.l∧Ends P ((o::l).map (·.dst)) env h env' h'∧(K env' h').run=some r) (fun e p ⟨env',h',b1,b2,b3,b4⟩=>⟨env',h',b1,b2,Ends.step q1 q3 (.refl _) b3,b4⟩) ih
     ·cases e3
    ·cases e1
    split at e1
    ·rename_i el t xs hsf;obtain⟨el',t',xs',hx,hpf⟩:=zAY q2 hsf;cases hx;rw[q1] at hpf;obtain⟨c,e2⟩:=qE e1;rw[zOT] at c;obtain⟨p1,p2⟩:=qJL hpf
     rcases run_ite e2 with ⟨z,e3⟩ | ⟨z,e3⟩
     ·have z0:xs=[]:=zR6 (zOU z);subst z0;have hfr:qEU o (qB env)=false:=by unfold qEU;rw[hpf];rfl
      have zH1:okF o (qB env)=false:=by unfold okF;rw[p1,hfr];rfl
      have zH2:ndF o (qB env)=false:=by unfold ndF;rw[p2,hfr];rfl
      rw[oL hpf (qWO c.1 rfl)];simp only[zH1,zH2,cond_false];unfold qBG;simp only[cond_false];have ih:=dS ht ho (wF (d:=o.dst) (v:=.d (.list el t) []) q2 (by simp[SV.ok])) e3;rw[jE,q1] at ih;exact zFP (Q':=fun e p=>∃ env' h',e=qB env'∧p=qC h'.l∧Ends P ((o::l).map (·.dst)) env h env' h'∧(K env' h').run=some r) (fun e p ⟨env',h',b1,b2,b3,b4⟩=>⟨env',h',b1,b2,Ends.step q1 q3 (.refl _) b3,b4⟩) ih
     ·rcases run_ite e3 with ⟨z2,e4⟩ | ⟨z2,e4⟩
      ·cases hn:xs.length with
       | zero=>rw[hn] at z;cases z
       | succ n =>
       rw[hn] at hpf;have hfr:qEU o (qB env)=true:=by unfold qEU;rw[hpf]
       have zH1:okF o (qB env)=true:=by unfold okF;rw[hfr,zTC]
       have zH2:ndF o (qB env)=true:=by unfold ndF;rw[hfr,zTC]
       have hRF:RF o (qH nm o.dst) (qB env)=[qH nm o.dst]:=by unfold RF;rw[hfr];rfl
       have hfo:=qWO c.1 z2;rw[hn] at hfo;rw[oL hpf hfo];simp only[zH1,zH2,hRF,cond_true];unfold qBG;simp only[cond_true];have hnw:=xG (k:=qH nm o.dst) (f:=fun v=>.list el true v v t xs) ho ⟨rfl,rfl,zDE c.1⟩;have ih:=dS ht hnw.2 (wF (d:=o.dst) (v:=.own (qH nm o.dst) h.next xs.length) (qI hnw.1 q2) (uG rfl)) e4;rw[jE,q1] at ih;have ih2:=zFP (Q':=fun e p=>∃ env' h',e=qB env'∧p=qC h'.l∧Ends P ((o::l).map (·.dst)) env h env' h'∧(K env' h').run=some r) (fun e p ⟨env',h',b1,b2,b3,b4⟩=>⟨env',h',b1,b2,Ends.step q1 q3 hnw.1 b3,b4⟩) ih
       have eO:q05 ((i,qKH [qH nm o.dst] (h.new (qH nm o.dst) fun v=>.list el true v v t xs).l)::O)=(i,bH [qH nm o.dst] (qC (h.new (qH nm o.dst) fun v=>.list el true v v t xs).l))::q05 O:=by
        show (i,qC (qKH _ _))::q05 O=_;rw[qA9]
       rw[eO] at ih2;simp only[SV.enc,hn] at ih2;exact⟨c.2,ih2⟩
      ·cases e4
    ·cases e1
    rename_i hsf;obtain⟨c,e2⟩:=qE e1;rw[zOT,zOT,zOT] at c;have hpf:pfr o (qB env)=none:=by rw[<-q1];exact q07 c.1.1
    have hfr:qEU o (qB env)=false:=by unfold qEU;rw[hpf]
    have zH1:okF o (qB env)=okE o:=by unfold okF;rw[hfr,zSC]
    have zH2:ndF o (qB env)=needs o.op:=by unfold ndF;rw[hfr,zSC]
    have hRF:RF o (qH nm o.dst) (qB env)=RC o (qH nm o.dst) (qB env):=by unfold RF;rw[hfr];rfl
    obtain⟨v,h',a1,a2,a3⟩:=qKC ht ho q2 e2;rw[q1] at a1;have c2:xH o (qB env) (qC h.l)=true:=zOW.2 fun x hx=>qQ9 (zOW.1 c.2.1 x (by rw[q1];exact hx))
    rw[o6 hpf (qZ0 (by rw[<-q1];exact c.1.1)) a1 c.1.2 c2];simp only[zH1,zH2,hRF];have ih:=dS ht a2.2.1 (wF (d:=o.dst) (qI a2.1 q2) a2.2.2) a3;rw[jE,q1] at ih;have ih2:=zFP (Q':=fun e p=>∃ env' h',e=qB env'∧p=qC h'.l∧Ends P ((o::l).map (·.dst)) env h env' h'∧(K env' h').run=some r) (fun e p ⟨env',h',b1,b2,b3,b4⟩=>⟨env',h',b1,b2,Ends.step q1 q3 a2.1 b3,b4⟩) ih
    have eO:q05 (cond (okE o) ((i,qKH (RC o (qH nm o.dst) (qB env)) h'.l)::O) O)=cond (okE o) ((i,bH (RC o (qH nm o.dst) (qB env)) (qC h'.l))::q05 O) (q05 O):=by
     cases okE o with
     | false=>rfl
     | true =>
       show (i,qC (qKH _ _))::q05 O=_;rw[qA9];rfl
    rw[eO] at ih2;unfold qBG
    cases hn:needs o.op with
    | false=>rw[hn] at ih2;exact ih2
    | true =>
      have c3:=c.2.2;rw[hn] at c3 ih2;simp only[cond_true] at c3 ⊢;exact⟨c3,ih2⟩
   ·rw[hw];simp only;have ih:=dS ht ho (wF (d:=o.dst) (v:=.tup []) q2 (by simp[SV.ok,okL])) e1;rw[jE,q1] at ih;simp only[SV.enc,qB] at ih;exact zFP (fun e p ⟨env',h',b1,b2,b3,b4⟩=>⟨env',h',b1,b2,Ends.step q1 q3 (.refl _) b3,b4⟩) ih
def qO9 (ops:Array Oper):Bool:=match ops[ops.size - 1]? with
 | some o=>(match o.op with
   | .call ⟨.value _,_,_⟩=>(List.range (ops.size - 1)).all fun i=>vQ (Region.before ops) i (ops.size - 1)
   | _=>false)
 | none=>false
def zC1 {Γ:Type}(P:Program)(G:Nat->Bool)(T:zV)(CI:CIT)(Y:YI Γ)(nm:Nm)(ops:Array Oper)(d:Bool)(g:Γ)(env:List SV)(h:SH)(K:Γ->List SV->SH->zFC R):zFC R :=
 cond (u7 G ops) (cond d (cond (aK ops&&aN ops&&!(zEC ops&&nA ops)) (cond (qO9 ops)
  (qUQ P T nm (ops.toList.map (·.dst)) (dBo ops) env 0 (ops.toList.take (ops.size - 1)) env h [] [] [] [] fun env h=>qZQ P T CI Y nm (ops.toList.map (·.dst)) (ops.toList.drop (ops.size - 1)) g env h K)
  (qUQ P T nm (ops.toList.map (·.dst)) (dBo ops) env 0 ops.toList env h [] [] [] [] (K g))) (cond (nA ops) (qD0 P T nm (ops.toList.map (·.dst)) (Region.before ops) env h 0 ops.toList env h [] [] [] [] [] (K g)) .fail)) (qZQ P T CI Y nm (ops.toList.map (·.dst)) ops.toList g env h K)) .fail
variable {nat:xB}{good:FuncId->Bool}{rd:Bool}
theorem q8Z [zFY P G]{Γ:Type}{w:Wld Γ}{T:zV}{CI:CIT}{Y:YI Γ}(s:zGA P good nat G tab)(ht:qO1 tab T)(hci:qY9 P G CI)(hy:YOk P G w Y){id:Nat}{ops:Array Oper}{d:Bool}{g:Γ}{K:Γ->List SV->SH->zFC R}(ho:OkH P h)(he:okL h env)(e:(zC1 P G T CI Y nm ops d g env h K).run=some r) :
 qQ P G rd nm w (.region id ops d) g (qB env) (qC h.l) fun x g' pe ph=>x=.normal∧∃ env' h',pe=qB env'∧ph=qC h'.l∧Ends P (ops.toList.map (·.dst)) env h env' h'∧(K g' env' h').run=some r:=by
 unfold zC1 at e;obtain⟨c1,e1⟩:=qE e
 cases d with
 | true =>
   cases hc2:(aK ops&&aN ops&&!(zEC ops&&nA ops)) with
   | false =>
     rw[hc2] at e1;obtain⟨c3,e2⟩:=qE (show (cond (nA ops) (qD0 P T nm (ops.toList.map (·.dst)) (Region.before ops) env h 0 ops.toList env h [] [] [] [] [] (K g)) .fail:zFC R).run=some r from e1);refine (qQ.of (s.zM4 (Q:=fun x pe ph=>x=.normal∧∃ env' h',pe=qB env'∧ph=qC h'.l∧Ends P (ops.toList.map (·.dst)) env h env' h'∧(K g env' h').run=some r) c1 c3 ?_)).mono ?_
     ·exact zFP (fun e p hq=>⟨rfl,hq⟩) (dS (G:=G) (O:=[]) ht ho he e2)
     ·rintro x g' pe ph ⟨rfl,hq⟩;exact hq
   | true =>
   have c2:=hc2;rw[hc2] at e1
   have e2:(cond (qO9 ops)
    (qUQ P T nm (ops.toList.map (·.dst)) (dBo ops) env 0 (ops.toList.take (ops.size - 1)) env h [] [] [] [] fun env h=>qZQ P T CI Y nm (ops.toList.map (·.dst)) (ops.toList.drop (ops.size - 1)) g env h K)
    (qUQ P T nm (ops.toList.map (·.dst)) (dBo ops) env 0 ops.toList env h [] [] [] [] (K g)):zFC R).run=some r:=e1
   rw[zOT,zOT] at c2;have c2:=c2.1
   cases hlo:qO9 ops with
   | false =>
     rw[hlo] at e2;have e2:(qUQ P T nm (ops.toList.map (·.dst)) (dBo ops) env 0 ops.toList env h [] [] [] [] (K g)).run=some r:=e2;refine (qQ.of (s.zMY (Q:=fun x pe ph=>x=.normal∧∃ env' h',pe=qB env'∧ph=qC h'.l∧Ends P (ops.toList.map (·.dst)) env h env' h'∧(K g env' h').run=some r) c1 c2.1 c2.2 rfl rfl ?_)).mono ?_
     ·exact zFP (fun e p hq=>⟨rfl,hq⟩) (qGY (G:=G) ht ho he e2)
     ·rintro x g' pe ph ⟨rfl,hq⟩;exact hq
   | true =>
     rw[hlo] at e2;have e2:(qUQ P T nm (ops.toList.map (·.dst)) (dBo ops) env 0 (ops.toList.take (ops.size - 1)) env h [] [] [] [] fun env h=>qZQ P T CI Y nm (ops.toList.map (·.dst)) (ops.toList.drop (ops.size - 1)) g env h K).run=some r:=e2;unfold qO9 at hlo;split at hlo
     ·rename_i o hop;split at hlo
      ·have hlt:=(zO4.1 hop).1
       have hdrop:ops.toList.drop (ops.size - 1)=[o]:=by
        have h1:ops.toList[ops.size - 1]?=some o:=by simpa using hop
        obtain⟨h2,h3⟩:=zOZ.1 h1;rw[zRR h2,h3,List.drop_eq_nil_of_le (by simp;omega)]
       have hmap:(ops.toList.take (ops.size - 1)).map (·.dst)++[o.dst]=ops.toList.map (·.dst):=by
        rw[show [o.dst]=[o].map (·.dst) from rfl,<-zQD,<-hdrop,zSZ]
       refine s.zM1 (inl:=qZ3 T) (n0:=ops.size - 1) c1 c2.1 c2.2 hop (by omega) (fun i hi=>zOW.1 hlo i (zRU.2 hi)) ?_;refine zFP (fun e p hq=>?_) (qGY (G:=G) ht ho he e2);obtain⟨zFI,h1,rfl,rfl,a3,a4⟩:=hq;rw[hdrop] at a4;refine kR (fun g2 e p hq=>?_) (qH7 (G:=G) ht hci hy a3.2.1 a3.1 a4);obtain⟨zFT,h2,rfl,rfl,b3,b4⟩:=hq;refine⟨rfl,zFT,h2,rfl,rfl,⟨b3.1,b3.2.1,a3.2.2.1.trans b3.2.2.1,fun i hi=>?_,b3.2.2.2.2.trans a3.2.2.2.2⟩,b4⟩;rw[<-hmap,zP0,not_or] at hi;exact (b3.2.2.2.1 i hi.2).trans (a3.2.2.2.1 i hi.1)
      ·cases hlo
     ·cases hlo
 | false=>exact s.zM0 c1 (kR (fun g e p hq=>⟨rfl,hq⟩) (qH7 (G:=G) ht hci hy ho he e1))
end
end Go.Sv
