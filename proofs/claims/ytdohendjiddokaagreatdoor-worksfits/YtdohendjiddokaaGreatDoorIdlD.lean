/- Operations of the ideal interpreter against the model's own, second part. Conditions: none. -/
import Derived.Test.YtdohendjiddokaaGreatDoorIdlC
import Derived.Orders
import Derived.KernelRfl
set_option linter.all false
namespace Go.Idl
variable {P:Program}
variable {H H':IH}{env:Env}{f:Inj}{o:Oper}{v:Value}{w:World}
theorem uS {α:Type}:∀ (s:Sem α) {x:α},yU P s=some x->∀ w,s.run P w=.ok x w
 | .pure a,x,h,w=>by
   have:some a=some x:=h;cases this;rfl
 | .load _ _ _,x,h,w=>by have h':none=some x:=h;cases h'
 | .store _ _ _ _,x,h,w=>by have h':none=some x:=h;cases h'
 | .new _ _,x,h,w=>by have h':none=some x:=h;cases h'
 | .shape _ _,x,h,w=>by have h':none=some x:=h;cases h'
 | .freeze _ _ _,x,h,w=>by have h':none=some x:=h;cases h'
 | .frozen _ _,x,h,w=>by have h':none=some x:=h;cases h'
 | .getObj _ _,x,h,w=>by have h':none=some x:=h;cases h'
 | .setObj _ _ _,x,h,w=>by have h':none=some x:=h;cases h'
 | .choose q k,x,h,w=>by
   have h':cond q.forced (yU P (k 0)) none=some x:=h
   cases hq:q.forced with
   | false=>rw[hq] at h';cases h'
   | true =>
     rw[hq] at h';have:=uS (k 0) h' w;unfold Sem.run;rw[if_pos hq];exact this
 | .sys _ _,x,h,w=>by have h':none=some x:=h;cases h'
 | .program k,x,h,w=>uS (k P) h w
 | .mark _ k,x,h,w=>uS k h w
 | .halt _,x,h,w=>by have h':none=some x:=h;cases h'
def sN (P:Program)(f:Inj)(H:IH)(w:World)(v:Value)(H':IH)(r:Result Next):Prop :=
 ∃ nx v' w' f',r=.ok nx w'∧(nx=.value v'∨(nx=.skip∧v'=undef))∧Rel P f' H' w'∧Grow f H w f' H' w'∧zGO P f' v v'∧Keep f H H'
theorem Post.next {s:Sem Value}(h:Post P f H w v H' (s.run P w)) :
 sN P f H w v H' ((do pure (Next.value (<- s)):Sem Next).run P w):=by
 obtain⟨v',w',f',h1,h2,h3,h4,h5⟩:=h;exact⟨.value v',v',w',f',by simp[h1],.inl rfl,h2,h3,h4,h5⟩
theorem qVY (h:qKH v=true)(f:Inj):zGO P f v v:=by
 cases v <;> first
  | exact .zHA (.zG5 h)
  | exact .base _ h
theorem qH6 {s:zGU}(h:jE P o env H=some s) :
 ∃ v,s=.val v H∧zP (jA env.val o.op.operands.toList)=true∧yU P (execOp env.val o)=some (.value v)∧∀ f,zGO P f v v:=by
 unfold jE at h;split at h
 ·rename_i hp;unfold qGC at h;split at h
  ·rename_i v hs;unfold qB8 at h
   cases hd:qKH v with
   | false=>rw[hd] at h;cases h
   | true =>
     rw[hd] at h;have h':some (zGU.val v H)=some s:=h;cases h';exact⟨v,rfl,hp,hs,qVY hd⟩
  ·cases h
 ·cases h
theorem rG (h:yU P (execOp env.val o)=some (.value v)):∀ cs b,o.op≠.select cs b:=by
 intro cs b ho;unfold execOp at h;rw[ho] at h;have:=uS _ h default;simp only[Sem.run_bind] at this
 cases hm:(Array.mapM (fun s:SelectCase=>do pure { chan:=env.val s.chan,send:=s.send.map env.val,zero:=<- zeroValue s.elem:CommCase }) cs).run P default with
 | ok a w=>rw[hm] at this;simp at this
 | halt a w=>rw[hm] at this;simp[Result.andThen] at this
theorem sZ {o:Oper}{ρ:Operand->Value}(hR:Rel P f H w)(h:jE P o env H=some (.val v H'))
 (hρ:∀ x∈o.op.operands,zGO P f (env.val x) (ρ x)):sN P f H w v H' ((execOp ρ o).run P w):=by
 obtain⟨v2,he,hp,hs,hv⟩:=qH6 h;cases he
 have heq:execOp ρ o=execOp env.val o:=execOp_congr o (rG hs) fun x hx=>by
  have hx':x∈o.op.operands.toList:=by simpa using hx
  have:=kC.1 hp (env.val x) (by rw[xI];exact zTL hx');exact (hρ x hx).plain this
 rw[heq,uS _ hs w];exact⟨.value v,v,w,f,rfl,.inl rfl,hR,.refl _ _ _,hv f,.refl _ _⟩
end Go.Idl
namespace Go.Idl
variable {P:Program}
variable {a:Option Addr}{b:Bool}{c l:Nat}{e t:TypeId}{f:Inj}{k:IntKind}{op:BinOp}{v v' x x' y y':Value}
theorem qS4 {a b:Int}(h:eZ op k a b=some v)(w:World):(binOp op t (.int k a) (.int k b)).run P w=.ok v w:=by
 unfold eZ at h
 cases op <;> simp only[zP7,reduceCtorEq] at h <;>
  first
  | (subst h;simp[binOp,Op.intArith,Op.intCmp])
  | (split at h
     ·cases h
     ·rename_i h0;cases h;simp[binOp,Op.intDiv,h0])
theorem qB9 {x y:Operand}{k':IntKind}{a b:Int}(w:World):(eqGuard op t x y (.int k a) (.int k' b)).run P w=.ok () w:=by
 unfold eqGuard;cases op <;> simp
theorem qWE {a b:Int}(h:eZ op k a b=some v):zN v=true:=by
 unfold eZ at h
 cases op <;> simp only[zP7,reduceCtorEq] at h <;>
  first
  | (subst h;rfl)
  | (split at h
     ·cases h
     ·cases h;rfl)
def qZ2:Value->Bool
 | .pointer _ | .slice _ _ _ | .map _ | .nilFunc | .func _ _ _=>true
 | _=>false
theorem aY {x y:Operand}{a b:Value}(h:qZ2 a=true)(w:World):(eqGuard op t x y a b).run P w=.ok () w:=by
 unfold eqGuard;cases op <;> cases a <;> simp[qZ2] at h <;> simp
theorem binOp_eql {a b:Value}(h:qZ2 a=true):binOp .eql t a b=(do pure (.bool (<- Op.equal t a b))):=by
 cases a <;> simp[qZ2] at h <;> cases b <;> rfl
theorem binOp_neq {a b:Value}(h:qZ2 a=true):binOp .neq t a b=(do pure (.bool (!(<- Op.equal t a b)))):=by
 cases a <;> simp[qZ2] at h <;> cases b <;> rfl
theorem zGO.zJH (h:zGO P f (.pointer a) v'):∃ a',v'=.pointer a'∧a'.isNone=a.isNone:=by
 cases h with
 | base _ hp=>exact⟨_,rfl,rfl⟩
 | ptr h=>exact⟨_,rfl,rfl⟩
theorem zGO.zJ1 (h:zGO P f (.slice a l c) v'):∃ a' c',v'=.slice a' l c'∧a'.isNone=a.isNone:=by
 cases h with
 | base _ hp=>exact⟨_,_,rfl,rfl⟩
 | sl h=>exact⟨_,_,rfl,rfl⟩
 | room h _ _=>exact⟨_,_,rfl,rfl⟩
 | zHL h _ _=>exact⟨_,_,rfl,rfl⟩
 | gh h _=>exact⟨_,_,rfl,rfl⟩
theorem zGO.zJI {a:Option Nat}(h:zGO P f (.map a) v'):∃ a',v'=.map a'∧a'.isNone=a.isNone:=by
 cases h with
 | base _ hp=>exact⟨_,rfl,rfl⟩
 | map h=>exact⟨_,rfl,rfl⟩
theorem q1D (d:Nat)(hu:P.underlying t=some (.pointer e))(a c:Option Addr)(h:a=none∨c=none)(w:World) :
 (Op.equalIn (d+1) t (.pointer a) (.pointer c)).run P w=.ok (a.isNone&&c.isNone) w:=by
 cases a <;> cases c <;> simp at h <;> simp[Op.equalIn,run_underlying hu]
theorem qTZ (d:Nat)(hu:P.underlying t=some (.slice e))(a c:Option Addr)(l1 l2 c1 c2:Nat)(h:a=none∨c=none)(w:World) :
 (Op.equalIn (d+1) t (.slice a l1 c1) (.slice c l2 c2)).run P w=.ok (a.isNone&&c.isNone) w:=by
 cases a <;> cases c <;> simp at h <;> simp[Op.equalIn,run_underlying hu]
theorem q05 {k:TypeId}(d:Nat)(hu:P.underlying t=some (.map k e))(a c:Option Nat)(h:a=none∨c=none)(w:World) :
 (Op.equalIn (d+1) t (.map a) (.map c)).run P w=.ok (a.isNone&&c.isNone) w:=by
 cases a <;> cases c <;> simp at h <;> simp[Op.equalIn,run_underlying hu]
def nJ:Value->Bool
 | .nilFunc | .func _ _ _=>true
 | _=>false
def vC:Value->Bool
 | .nilFunc=>true
 | _=>false
theorem qLV (d:Nat){p r:Array TypeId}{va:Bool}(hu:P.underlying t=some (.func p r va))(hx:nJ x=true)(hy:nJ y=true)
 (h:vC x=true∨vC y=true) (w:World):(Op.equalIn (d+1) t x y).run P w=.ok (vC x&&vC y) w:=by
 cases x <;> simp[nJ] at hx <;> cases y <;> simp[nJ] at hy <;> simp[vC] at h <;> simp[Op.equalIn,run_underlying hu,vC]
theorem zGO.fnV (hx:zGO P f x x')(h:nJ x=true):nJ x'=true∧vC x'=vC x:=by
 cases hx with
 | any _=>simp[unk,nJ] at h
 | undef=>simp[Go.undef,nJ] at h
 | base _ _=>exact⟨h,rfl⟩
 | func _ _ _ _=>exact⟨rfl,rfl⟩
 | yield _=>exact⟨rfl,rfl⟩
 | _=>simp[nJ] at h
theorem q3R (h:uR (.pointer a) y=some b):∃ c,y=.pointer c∧(a=none∨c=none)∧b=(a.isNone&&c.isNone):=by
 cases y <;> cases a <;> simp[uR] at h
 ·subst h;exact⟨_,rfl,.inl rfl,by simp⟩
 ·rename_i c q;cases c <;> simp at h;subst h;exact⟨_,rfl,.inr rfl,by simp⟩
theorem qSL (h:uR (.slice a l c) y=some b):∃ a2 l2 c2,y=.slice a2 l2 c2∧(a=none∨a2=none)∧b=(a.isNone&&a2.isNone):=by
 cases y <;> cases a <;> simp[uR] at h
 ·subst h;exact⟨_,_,_,rfl,.inl rfl,by simp⟩
 ·rename_i c _ _ q;cases c <;> simp at h;subst h;exact⟨_,_,_,rfl,.inr rfl,by simp⟩
theorem q4D {a:Option Nat}(h:uR (.map a) y=some b):∃ c,y=.map c∧(a=none∨c=none)∧b=(a.isNone&&c.isNone):=by
 cases y <;> cases a <;> simp[uR] at h
 ·subst h;exact⟨_,rfl,.inl rfl,by simp⟩
 ·rename_i c q;cases c <;> simp at h;subst h;exact⟨_,rfl,.inr rfl,by simp⟩
theorem qUE (h:uR x y=some b)(hx:nJ x=true):nJ y=true∧(vC x=true∨vC y=true)∧b=(vC x&&vC y):=by
 cases x <;> simp[nJ] at hx <;> cases y <;> simp[uR] at h <;> subst h <;> simp[nJ,vC]
theorem dL {α:Type}{a a':Option α}(h:a'.isNone=a.isNone)(hn:a=none):a'=none:=by subst hn;simpa using h
theorem qWJ (h:uR x y=some b)(hk:uW P t x=true)(hx:zGO P f x x')(hy:zGO P f y y')(w:World) :
 qZ2 x'=true∧(Op.equal t x' y').run P w=.ok b w:=by
 unfold uW at hk;show qZ2 x'=true∧(Op.equalIn (9999+1) t x' y').run P w=.ok b w;generalize 9999=d;split at hk
 ·rename_i e a hu;obtain⟨c,rfl,hn,rfl⟩:=q3R h;obtain⟨a',rfl,ha⟩:=hx.zJH;obtain⟨c',rfl,hc⟩:=hy.zJH;rw[<-ha,<-hc];exact⟨rfl,q1D d hu _ _ (hn.imp (dL ha) (dL hc)) w⟩
 ·rename_i e a l1 c1 hu;obtain⟨c,l2,c2,rfl,hn,rfl⟩:=qSL h;obtain⟨a',q1,rfl,ha⟩:=hx.zJ1;obtain⟨c',q2,rfl,hc⟩:=hy.zJ1;rw[<-ha,<-hc];exact⟨rfl,qTZ d hu _ _ _ _ _ _ (hn.imp (dL ha) (dL hc)) w⟩
 ·rename_i k e a hu;obtain⟨c,rfl,hn,rfl⟩:=q4D h;obtain⟨a',rfl,ha⟩:=hx.zJI;obtain⟨c',rfl,hc⟩:=hy.zJI;rw[<-ha,<-hc];exact⟨rfl,q05 d hu _ _ (hn.imp (dL ha) (dL hc)) w⟩
 ·rename_i p r va hu;obtain⟨h1,h2,rfl⟩:=qUE h rfl;obtain⟨g1,g2⟩:=hx.fnV rfl;obtain⟨k1,k2⟩:=hy.fnV h1;rw[<-g2,<-k2];refine⟨?_,qLV d hu g1 k1 (by rw[g2,k2];exact h2) w⟩;cases x' <;> simp[nJ] at g1 <;> rfl
 ·rename_i p r va fn a1 a2 hu;obtain⟨h1,h2,rfl⟩:=qUE h rfl;obtain⟨g1,g2⟩:=hx.fnV rfl;obtain⟨k1,k2⟩:=hy.fnV h1;rw[<-g2,<-k2];refine⟨?_,qLV d hu g1 k1 (by rw[g2,k2];exact h2) w⟩;cases x' <;> simp[nJ] at g1 <;> rfl
 ·cases hk
theorem qL6 {n:Nat}(d:Nat)(hu:P.underlying t=some (.pointer e))(hs:szT P e=some n)(hn:n≠0)(a b:Addr)(h:a.block=b.block)(w:World) :
 (Op.equalIn (d+1) t (.pointer (some a)) (.pointer (some b))).run P w=.ok (a==b) w:=by
 simp[Op.equalIn,run_underlying hu,zW hs,hn,sameAddr,h]
theorem qVU (h:qXM P t x y=some b)(hx:zGO P f x x')(hy:zGO P f y y')(w:World) :
 qZ2 x'=true∧(Op.equal t x' y').run P w=.ok b w:=by
 unfold qXM at h;split at h
 ·rename_i a c;split at h
  ·rename_i el hu;split at h
   ·rename_i n hs;split at h
    ·rename_i hc;simp only[zPY,bne_iff_ne,ne_eq,beq_iff_eq,Option.isNone_iff_eq_none] at hc;obtain⟨⟨⟨hn,hb⟩,h1⟩,h2⟩:=hc;obtain⟨ab,ao,as⟩:=a;obtain⟨cb,co,cs⟩:=c;simp only at hb h1 h2;subst hb h1 h2;obtain⟨e1,he1,rfl⟩:=hx.zHC;obtain⟨e2,he2,rfl⟩:=hy.zHC;rw[he1] at he2;cases he2;refine⟨rfl,?_⟩;have:=qL6 (P:=P) 9999 hu hs hn ⟨e1.r,ao+e1.shift,none⟩ ⟨e1.r,co+e1.shift,none⟩ rfl w;rw[show Op.equal t (Value.pointer (some ⟨e1.r,ao+e1.shift,none⟩)) (Value.pointer (some ⟨e1.r,co+e1.shift,none⟩))=Op.equalIn (9999+1) t (.pointer (some ⟨e1.r,ao+e1.shift,none⟩)) (.pointer (some ⟨e1.r,co+e1.shift,none⟩)) from rfl,this];simp only[zP7] at h;subst h
     congr 1
     rw[Bool.eq_iff_iff];simp
    ·cases h
   ·cases h
  ·cases h
 ·cases h
theorem qE1 (h:mG P t x y=some b)(hx:zGO P f x x')(hy:zGO P f y y')(w:World) :
 qZ2 x'=true∧(Op.equal t x' y').run P w=.ok b w:=by
 unfold mG at h;split at h
 ·rename_i b' hb
  cases hk:uW P t x with
  | false=>rw[hk] at h;cases h
  | true=>rw[hk] at h;cases h;exact qWJ hb hk hx hy w
 ·exact qVU h hx hy w
theorem qZS {H H':IH}{w:World}{o:Oper}{env:Env}{ρ:Operand->Value}{x y:Operand}{u:TypeId}(hR:Rel P f H w)(ho:o.op=.binOp op t x y u)
 (h:yX P o op t (env.val x) (env.val y) env H=some (.val v H')) (hρ:∀ x∈o.op.operands,zGO P f (env.val x) (ρ x)):sN P f H w v H' ((execOp ρ o).run P w):=by
 have hx:zGO P f (env.val x) (ρ x):=hρ x (by rw[ho];simp[Op.operands]);have hy:zGO P f (env.val y) (ρ y):=hρ y (by rw[ho];simp[Op.operands]);have zJJ:execOp ρ o=(do pure (.value (<- (do eqGuard op t x y (ρ x) (ρ y);binOp op t (ρ x) (ρ y))))):=by unfold execOp;rw[ho]
 have fin:∀ (v':Value),(eqGuard op t x y (ρ x) (ρ y)).run P w=.ok () w->(binOp op t (ρ x) (ρ y)).run P w=.ok v' w->zGO P f v v'->H'=H->sN P f H w v H' ((execOp ρ o).run P w):=by
  intro v' h1 h2 h3 h4;subst h4;rw[zJJ];exact⟨.value v',v',w,f,by simp[h1,h2],.inl rfl,hR,.refl _ _ _,h3,.refl _ _⟩
 have nil:zG2 P o op t (env.val x) (env.val y) env H=some (.val v H')->sN P f H w v H' ((execOp ρ o).run P w):=by
  intro h;unfold zG2 at h;split at h
  ·split at h
   ·rename_i b hb;obtain⟨rfl,rfl⟩:=val_inj h;obtain⟨h1,h2⟩:=qE1 hb hx hy w;exact fin _ (aY h1 w) (by rw[binOp_eql h1];simp[h2]) (.base _ rfl) rfl
   ·exact sZ hR h hρ
  ·split at h
   ·rename_i b hb;obtain⟨rfl,rfl⟩:=val_inj h;obtain⟨h1,h2⟩:=qE1 hb hx hy w;exact fin _ (aY h1 w) (by rw[binOp_neq h1];simp[h2]) (.base _ rfl) rfl
   ·exact sZ hR h hρ
  ·exact sZ hR h hρ
 unfold yX at h;split at h
 ·rename_i k a hxa;split at h
  ·rename_i k' b hyb
   have ex:env.val x=.int k a:=by
    cases hv:env.val x <;> rw[hv] at hxa <;> simp[asI] at hxa;rw[hxa.1,hxa.2]
   have ey:env.val y=.int k' b:=by
    cases hv:env.val y <;> rw[hv] at hyb <;> simp[asI] at hyb;rw[hyb.1,hyb.2]
   unfold zHI at h
   cases hkk:Nat.beq (q4Z k) (q4Z k') with
   | false=>rw[hkk] at h;exact sZ hR h hρ
   | true =>
     rw[hkk] at h;have:=q1P hkk;subst this
     cases hib:eZ op k a b with
     | none=>rw[hib] at h;exact sZ hR h hρ
     | some v2 =>
       rw[hib] at h;obtain⟨rfl,rfl⟩:=val_inj h;have hx':ρ x=.int k a:=by rw[ex] at hx;exact hx.int
       have hy':ρ y=.int k b:=by rw[ey] at hy;exact hy.int
       exact fin _ (by rw[hx',hy'];exact qB9 w) (by rw[hx',hy'];exact qS4 hib w) (.base _ (qWE hib)) rfl
  ·exact nil h
 ·exact nil h
end Go.Idl
namespace Go.Idl
variable {P:Program}
variable {H H':IH}{as as':List Value}{c l:Nat}{f:Inj}{t:TypeId}{v x x':Value}{w:World}
theorem qE4 {r o:Nat}{c:Array Value}{el:TypeId}{fz:Nat×Nat}(h:w.heap[r]?=some (.cells c el fz)):(Conv.seenAt ⟨r,o,none⟩).run P w=.ok ⟨r,o,none⟩ w:=by
 simp[Conv.seenAt,viewAt,World.shape?,h]
theorem qM6 {src dst:TypeId}(hR:Rel P f H w)(h:qHX P src dst x H=some v)(hx:zGO P f x x') :
 Post P f H w v H ((convert src dst x').run P w):=by
 unfold qHX at h;split at h
 ·rename_i b o;obtain⟨e,he,rfl⟩:=hx.zHC;split at h
  ·rename_i c el fz hg;obtain⟨c',el',fz',hr,hN,hsz,hcv,hfr,hex⟩:=hR.obj b e _ he hg;split at h
   ·rename_i t hs hd;split at h
    ·rename_i n hn;split at h
     ·rename_i hc;simp only[zPY,bne_iff_ne,ne_eq,decide_eq_true_eq] at hc;cases h;refine .same hR (v':=.pointer (some ⟨e.r,o+e.shift,none⟩)) ?_ (.ptr he);have hlt:¬ (c'.size<=o+e.shift):=by omega
      simp[convert,run_underlying hs,run_underlying hd,Conv.unsafePointer,qE4 hr,cellsIn,World.shape?,hr,zW hn,hc.1,hlt]
     ·cases h
    ·cases h
   ·rename_i u hs hd;split at h
    ·rename_i n hn;split at h
     ·rename_i hc;simp only[zPY,bne_iff_ne,ne_eq,beq_iff_eq] at hc;obtain⟨⟨hn0,hfz⟩,hl⟩:=hc;cases h;subst hfz;obtain⟨hsh,hcs⟩:=hex rfl;obtain⟨_,hel,_⟩:=hfr rfl;subst hel;refine .same hR (v':=.pointer (some ⟨e.r,o+e.shift,none⟩)) ?_ (.ptr he);rw[hsh,zSK];rw[hcs] at hl;simp[convert,run_underlying hs,run_underlying hd,Conv.unsafePointer,qE4 hr,zW hn,hn0,variablesAt,World.shape?,hr,hl]
     ·cases h
    ·cases h
   ·cases h
  ·cases h
 ·cases h
theorem run_loadBytes (r:Nat):∀ (l:List Value) (bs:List UInt8) (o:Nat) (acc:ByteArray) (w:World),zO l=some bs ->
 (∀ j v,l[j]?=some v->w.cell? ⟨r,o+j,none⟩=some v)->(loadBytes ⟨r,o,none⟩ acc l.length).run P w=.ok ⟨acc.data++bs.toArray⟩ w
 | [],bs,o,acc,w,h,_=>by
   simp[zO] at h;subst h;simp[loadBytes]
 | v::l,bs,o,acc,w,h,hc=>by
   cases v <;> first | (simp[zO] at h;done) | skip
   rename_i k n
   cases k <;> first | (simp[zO] at h;done) | skip
   simp only[zO,zP9] at h;obtain⟨bs',h1,rfl⟩:=h
   have h0:(load ⟨r,o,none⟩).run P w=.ok (.int .u8 n) w:=by
    have:=hc 0 _ rfl;simp only[zSK] at this;simp[load,Sem.run,this]
   have:=run_loadBytes r l bs' (o+1) (acc.push (UInt8.ofNat n.toNat)) w h1 (fun j v hj=>by
    have:=hc (j+1) v (by simpa using hj)
    rwa [show o+(j+1)=o+1+j by omega] at this)
   simp only[zQJ,loadBytes,Sem.run_bind,h0,Result.andThen_ok];rw[yZ];show (loadBytes ⟨r,o+1,none⟩ (acc.push (n.toNat.toUInt8)) l.length).run P w=_;rw[show n.toNat.toUInt8=UInt8.ofNat n.toNat from rfl,this]
   congr 1
   show (⟨(acc.push _).data++_⟩:ByteArray)=_
   congr 1
   show (acc.data.push _)++_=_;apply zRH;simp
theorem qAG {at_:Array TypeId}(hR:Rel P f H w)(h:xV P at_ as H=some (.val v H'))(ha:qD P f as as') :
 Post P f H w v H' ((Builtin.unsafeString_ at_ t as'.toArray).run P w):=by
 have zJ2:IntKind.i64.max=9223372036854775807:=rfl;unfold xV at h;split at h
 ·rename_i k n hpt;obtain⟨p',r1,rfl,hp,hr1⟩:=ha.zGP;obtain⟨n',r2,rfl,hn,hr2⟩:=hr1.zGP;have:=hr2.zGT;subst this;have:=hn.int;subst this;have:=hp.plain rfl;subst this;split at h
  ·rename_i hc;obtain⟨rfl,rfl⟩:=val_inj h;have hn0:n=0:=by simpa using (show n=0∧_ by simpa using hc).1
   subst hn0;refine .same hR (v':=.string .empty) ?_ (.base _ rfl);show Sem.run P (Bind.bind (asInt (.int k 0)) _) w=_;simp[asInt,asIntOf,hpt,zJ2]
  ·cases h
 ·rename_i b o k n hpt;obtain⟨p',r1,rfl,hp,hr1⟩:=ha.zGP;obtain⟨n',r2,rfl,hn,hr2⟩:=hr1.zGP;have:=hr2.zGT;subst this;have:=hn.int;subst this;obtain⟨e,he,rfl⟩:=hp.zHC;split at h
  ·rename_i u hu;split at h
   ·rename_i hn0;obtain⟨rfl,rfl⟩:=val_inj h;subst hn0;refine .same hR (v':=.string .empty) ?_ (.base _ rfl);show Sem.run P (Bind.bind (asInt (.int k 0)) _) w=_;simp[asInt,asIntOf,hpt,zJ2]
   ·rename_i hn0;split at h
    ·rename_i hnb;simp only[zPY,decide_eq_true_eq] at hnb;split at h
     ·rename_i c el fz hg;split at h
      ·rename_i hc;simp only[zPY,beq_iff_eq,decide_eq_true_eq] at hc;obtain⟨⟨⟨hfz,hcell⟩,zKZ⟩,hbase⟩:=hc;split at h
       ·rename_i bs hbs;obtain⟨rfl,rfl⟩:=val_inj h;simp only[zRZ] at hbs;obtain⟨l,hl,hbytes⟩:=hbs;obtain⟨c',el',fz',hr,hN,hsz,hcv,hfr,hex⟩:=hR.obj b e _ he hg;obtain⟨hro,hel,hnf⟩:=hfr hfz;subst hel;obtain⟨l',q1,q2,q3⟩:=aW hR he hl;obtain⟨c2,el2,fz2,hg2,hle,_⟩:=nT hl;rw[hg] at hg2;cases hg2
        -- bytes are plain
        have hpl:∀ (l:List Value) bs,zO l=some bs->zP l=true:=by
         intro l
         induction l with
         | nil=>intro _ _;rfl
         | cons v l ih =>
           intro bs hb
           cases v <;> first | (simp[zO] at hb;done) | skip
           rename_i k2 n2
           cases k2 <;> first | (simp[zO] at hb;done) | skip
           simp only[zO,zP9] at hb;obtain⟨bs',h1,_⟩:=hb;rw[mW,ih bs' h1];rfl
        have hll:l'=l:=q1.plain (hpl l bs hbytes);subst hll;have hb0:=run_loadBytes (P:=P) e.r l' bs (o+e.shift) .empty w hbytes (fun j v hj=>by have:=q3 j v hj;rwa [yZ] at this);rw[q2] at hb0
        have hlies:liesAt P P.depth el' (c'.size / P.cellsOf el') (o+e.shift) u n.toNat=true:=by
         rw[hcell]
         cases hd:P.depth with
         | zero=>rw[hd] at zKZ;simp[sameLayout] at zKZ
         | succ d =>
           unfold liesAt
           have:rowAt P (sameLayout P P.depth · u) P.depth el' (c'.size / 1) (o+e.shift) n.toNat=true:=by
            rw[hd];unfold rowAt;rw[hcell];rw[hd] at zKZ;have:o+e.shift+n.toNat<=c'.size:=by omega
            simp[zKZ,Nat.mod_one,this]
           rw[zQ2];left;exact this
        have hnn:n.toNat≠0:=by omega
        have hlt:e.r < w.heap.size:=hR.bound b e he
        have hmod:∃ fz2,∀ x:Nat,(w.freeze ⟨e.r,o+e.shift,none⟩ n.toNat).heap[x]?=if x=e.r then some (.cells c' el' fz2) else w.heap[x]?:=by
         obtain⟨lo,hi⟩:=fz';refine⟨if lo==hi then (o+e.shift,o+e.shift+n.toNat) else (min lo (o+e.shift),max hi (o+e.shift+n.toNat)),fun x=>?_⟩;simp only[World.freeze,hnn,if_false];rw[Array.getElem?_modify];by_cases hx:x=e.r
         ·subst hx;simp[hr]
         ·rw[if_neg (Ne.symm hx),if_neg hx]
        obtain⟨fz2,hmod⟩:=hmod
        obtain⟨g1,g2,g3⟩:=Rel.put (o1:=.cells c el' (0,1)) (o1':=.cells c' el' fz2) (w':=w.freeze ⟨e.r,o+e.shift,none⟩ n.toNat) hR he hg rfl hro
         ⟨c',el',fz2,rfl,hN,hsz,hcv,fun hx=>by simp[bK] at hx,fun hx=>by simp at hx⟩ hmod (by simp[World.freeze,hnn]) (by unfold World.freeze;split <;> exact⟨rfl,rfl,rfl⟩)
        refine⟨_,_,f,?_,g1,g2,.base _ rfl,g3⟩;have hmax:¬ (9223372036854775807 < n):=by omega
        have hneg:¬ (n < 0):=by omega
        show Sem.run P (Bind.bind (asInt (.int k n)) _) w=_;simp[asInt,asIntOf,hpt,hneg,zJ2,hmax,hn0,elemOf,run_underlying hu,variablesAt,World.shape?,hr,hlies,hb0,freeze,Sem.run]
       ·cases h
      ·cases h
     ·cases h
    ·cases h
  ·cases h
 ·cases h
theorem qGE {a:Addr}(ts:Array TypeId)(t:TypeId)(hR:Rel P f H w)(h:x=.slice (some a) l c)(hc:c≠0)(hx:zGO P f x x') :
 Post P f H w (.pointer (some ⟨a.block,a.off,none⟩)) H ((Builtin.unsafeSliceData_ ts t #[x']).run P w):=by
 subst h
 cases hx with
 | base _ hp=>have hp':false=true:=hp;cases hp'
 | sl hb =>
   refine .same hR (v':=.pointer (some ⟨_,_,none⟩)) ?_ (.ptr hb);show Sem.run P (ite (c≠0) (pure (Value.pointer (some _)):Sem Value) _) w=_;rw[if_pos hc];simp
 | @room _ _ _ _ _ cap' e hb hcc hN =>
   refine .same hR (v':=.pointer (some ⟨_,_,none⟩)) ?_ (.ptr hb);show Sem.run P (ite (cap'≠0) (pure (Value.pointer (some _)):Sem Value) _) w=_;rw[if_pos (by omega)];simp
 | zHL _ _ _=>exact absurd rfl hc
 | gh _ _=>exact absurd rfl hc
theorem qMI (ts:Array TypeId)(t:TypeId)(hR:Rel P f H w)(hx:zGO P f (.slice none l c) x') :
 Post P f H w (.pointer none) H ((Builtin.unsafeSliceData_ ts t #[x']).run P w):=by
 have:=hx.zH2;subst this;exact .same hR (v':=.pointer none) (by show Sem.run P (pure (Value.pointer none)) w=_;simp) (.base _ rfl)
theorem zGO.zHZ {r:Nat}{v':Value}(h:zGO P f (.map (some r)) v'):∃ e,f r=some e∧v'=.map (some e.r):=by
 cases h with
 | base _ hp=>have hp':false=true:=hp;cases hp'
 | map h=>exact⟨_,h,rfl⟩
theorem yM {r:Nat}{o:Obj}(h:w.heap[r]?=some o)(hn:∀ c e z,o≠.cells c e z):(getObj r).run P w=.ok o w:=by
 unfold getObj Sem.run;rw[h]
 cases o <;> first | (exact absurd rfl (hn _ _ _)) | rfl
theorem q9O {ts:Array TypeId}(hR:Rel P f H w)(h:pM P ts as H=some (.val v H'))(ha:qD P f as as') :
 Post P f H w v H' ((Builtin.len_ ts t as'.toArray).run P w):=by
 unfold pM at h;split at h
 ·rename_i el a n c hb;obtain⟨rfl,rfl⟩:=val_inj h;obtain⟨x',r,rfl,hx,hr⟩:=ha.zGP;have:=hr.zGT;subst this;obtain⟨a',c',rfl⟩:=hx.zHY;obtain⟨t0,ht,hu⟩:=zRZ.1 hb;exact .same hR (v':=goInt n) (by simp[Builtin.len_,ht,run_underlying hu]) (.base _ rfl)
 ·rename_i k el r hb;split at h
  ·rename_i es clk hg;obtain⟨rfl,rfl⟩:=val_inj h;obtain⟨x',q,rfl,hx,hr⟩:=ha.zGP;have:=hr.zGT;subst this;obtain⟨e,he,rfl⟩:=hx.zHZ;obtain⟨_,es',h1,h2,_⟩:=hR.obj r e _ he hg;obtain⟨t0,ht,hu⟩:=zRZ.1 hb;have hob:=yM (P:=P) h1 (fun _ _ _ hx=>by cases hx);exact .same hR (v':=goInt es.size) (by simp[Builtin.len_,ht,run_underlying hu,hob,h2]) (.base _ rfl)
  ·cases h
 ·rename_i n el x hb;obtain⟨rfl,rfl⟩:=val_inj h;obtain⟨x',q,rfl,hx,hr⟩:=ha.zGP;have:=hr.zGT;subst this;obtain⟨t0,ht,hu⟩:=zRZ.1 hb;exact .same hR (v':=goInt n) (by simp[Builtin.len_,ht,run_underlying hu]) (.base _ rfl)
 ·cases h
end Go.Idl
namespace Go.Idl
variable {P:Program}
variable {H:IH}{clk:Nat}{es es':Array MapEntry}{f:Inj}{k k' x x':Value}{kt t:TypeId}{l l' m:List MapEntry}{v:MapEntry}{w:World}
theorem jF {α β:Type}(g:α->Sem β):∀ (s:Sem α),yU P (s.bind g)=(yU P s).bind fun a=>yU P (g a)
 | .pure a=>rfl
 | .load _ _ _=>rfl
 | .store _ _ _ _=>rfl
 | .new _ _=>rfl
 | .shape _ _=>rfl
 | .freeze _ _ _=>rfl
 | .frozen _ _=>rfl
 | .getObj _ _=>rfl
 | .setObj _ _ _=>rfl
 | .choose q k=>by
   show cond q.forced (yU P ((k 0).bind g)) none=(cond q.forced (yU P (k 0)) none).bind _;cases q.forced
   ·rfl
   ·exact jF g (k 0)
 | .sys _ _=>rfl
 | .program k=>jF g (k P)
 | .mark _ k=>jF g k
 | .halt _=>rfl
def aH (P:Program)(f:Inj)(l l':List MapEntry):Prop:=l.length=l'.length∧∀ (i:Nat) x x',l[i]?=some x->l'[i]?=some x'->x'.key=x.key∧x'.born=x.born∧zGO P f x.val x'.val
theorem aH.nil:aH P f [] []:=⟨rfl,fun i v v' h=>by simp at h⟩
theorem aH.zGP (h:aH P f (v::l) m):∃ v' l',m=v'::l'∧(v'.key=v.key∧v'.born=v.born∧zGO P f v.val v'.val)∧aH P f l l':=by
 cases m with
 | nil=>simp[aH] at h
 | cons v' l'=>exact⟨v',l',rfl,h.2 0 v v' rfl rfl,by have:=h.1;simpa using this,fun i u u' hu hu'=>h.2 (i+1) u u' (by simpa using hu) (by simpa using hu')⟩
theorem aH.zGT (h:aH P f [] m):m=[]:=by
 cases m with
 | nil=>rfl
 | cons a b=>simp[aH] at h
theorem aH.cons {v':MapEntry}(h:v'.key=v.key∧v'.born=v.born∧zGO P f v.val v'.val)(t:aH P f l l'):aH P f (v::l) (v'::l') :=
 ⟨by simp[t.1],fun i u u' hu hu'=>by
   cases i with
   | zero=>simp at hu hu';subst hu hu';exact h
   | succ i=>exact t.2 i u u' (by simpa using hu) (by simpa using hu')⟩
theorem aH.get (h:aH P f l l'){i:Nat}(hv:l[i]?=some v):∃ v',l'[i]?=some v'∧v'.key=v.key∧v'.born=v.born∧zGO P f v.val v'.val:=by
 have hlt:i < l.length:=(zP4.1 hv).1;have hlt':i < l'.length:=h.1 ▸ hlt;exact⟨l'[i],zP2 hlt',h.2 i v _ hv (zP2 hlt')⟩
theorem qBA {f:Inj}{kd:TypeDesc}{k:Value}:∀ (l l':List MapEntry) (i:Nat),aH P f l l' ->
 (Instr.findNow kd k l' i).map (fun r=>r.map (·.1))=(Instr.findNow kd k l i).map (fun r=>r.map (·.1)) ∧
 ∀ j v,Instr.findNow kd k l' i=some (some (j,v))->i<=j∧∃ e,l'[j - i]?=some e∧v=e.val
 | [],l',i,h=>by rw[h.zGT];simp[Instr.findNow]
 | e::l,l',i,h=>by
   obtain⟨e',t',rfl,he,ht⟩:=h.zGP;simp only[Instr.findNow,he.1]
   cases Instr.sameNow kd k e.key with
   | none=>simp
   | some b =>
     cases b with
     | true=>simp
     | false =>
       simp only;obtain⟨h1,h2⟩:=qBA l t' (i+1) ht;refine⟨h1,fun j v hj=>?_⟩;obtain⟨hij,e2,h3,h4⟩:=h2 j v hj;refine⟨by omega,e2,?_,h4⟩;rw[show j - i=(j - (i+1))+1 by omega];simpa using h3
theorem mO {f:Inj}{kt:TypeId}{k:Value}:∀ (l l':List MapEntry) (i:Nat) (r:Option (Nat×Value)),aH P f l l'->yU P (Instr.findAsking kt k l i)=some r ->
 ∃ r',yU P (Instr.findAsking kt k l' i)=some r'∧r'.map (·.1)=r.map (·.1)∧∀ j v,r'=some (j,v)->i<=j∧∃ e,l'[j - i]?=some e∧v=e.val
 | [],l',i,r,h,hr=>by
   rw[h.zGT];have:some none=some r:=hr;cases this;exact⟨none,rfl,rfl,fun j v h=>by cases h⟩
 | e::l,l',i,r,h,hr=>by
   obtain⟨e',t',rfl,he,ht⟩:=h.zGP;have hr':yU P ((Op.equal kt k e.key).bind fun b=>if b=true then pure (some (i,e.val)) else Instr.findAsking kt k l (i+1))=some r:=hr;rw[jF] at hr'
   have goal:∀ x,yU P (Instr.findAsking kt k (e'::t') i)=x ↔ (yU P (Op.equal kt k e.key)).bind (fun b=>yU P (if b=true then pure (some (i,e'.val)) else Instr.findAsking kt k t' (i+1)))=x:=by
    intro x;rw[<-jF,<-he.1];exact Iff.rfl
   cases hb:yU P (Op.equal kt k e.key) with
   | none=>rw[hb] at hr';cases hr'
   | some b =>
     rw[hb] at hr'
     cases b with
     | true =>
       have:some (some (i,e.val))=some r:=hr';cases this;refine⟨some (i,e'.val),(goal _).2 (by rw[hb];rfl),rfl,fun j v hj=>?_⟩;cases hj;exact⟨zP0 _,e',by simp,rfl⟩
     | false =>
       have h1:yU P (Instr.findAsking kt k l (i+1))=some r:=hr';obtain⟨r',h2,h3,h4⟩:=mO l t' (i+1) r ht h1;refine⟨r',(goal _).2 (by rw[hb];exact h2),h3,fun j v hj=>?_⟩;obtain⟨hij,e2,h5,h6⟩:=h4 j v hj;refine⟨by omega,e2,?_,h6⟩;rw[show j - i=(j - (i+1))+1 by omega];simpa using h5
theorem zZ:yU P (underlying t)=P.underlying t:=by
 show yU P (match P.underlying t with
  | some d=>pure d
  | none=>stuck "no such type")=_
 cases P.underlying t <;> rfl
theorem qNC {r:Option (Nat×Value)}(h:aH P f l l')(hr:yU P (Instr.findKey kt k l)=some r) :
 ∃ r',(∀ w,(Instr.findKey kt k l').run P w=.ok r' w)∧r'.map (·.1)=r.map (·.1)∧∀ j v,r'=some (j,v)->∃ e,l'[j]?=some e∧v=e.val:=by
 have key:∀ l,yU P (Instr.findKey kt k l)=(P.underlying kt).bind fun kd=>(match Instr.findNow kd k l 0 with
  | some r=>some r
  | none=>yU P (Instr.findAsking kt k l)):=by
  intro l;show yU P ((underlying kt).bind _)=_;rw[jF,zZ]
  congr 1
  funext kd
  cases Instr.findNow kd k l 0 <;> rfl
 rw[key] at hr;obtain⟨kd,hu,hr⟩:=zRZ.1 hr;obtain⟨h1,h2⟩:=qBA (kd:=kd) (k:=k) l l' 0 h;have fin:∀ r',yU P (Instr.findKey kt k l')=some r'->∀ w,(Instr.findKey kt k l').run P w=.ok r' w:=fun r' hr'=>uS _ hr'
 cases hn:Instr.findNow kd k l 0 with
 | some r0 =>
   rw[hn] at hr h1;simp only[zP7] at hr;subst hr
   cases hn':Instr.findNow kd k l' 0 with
   | none=>rw[hn'] at h1;cases h1
   | some r' =>
     rw[hn'] at h1;simp only[zQC,zP7] at h1;refine⟨r',fin r' (by rw[key,hu,zQO,hn']),h1,fun j v hj=>?_⟩;subst hj;obtain⟨_,e,h3,h4⟩:=h2 j v hn';exact⟨e,by simpa using h3,h4⟩
 | none =>
   rw[hn] at hr h1
   have hn':Instr.findNow kd k l' 0=none:=by
    cases hx:Instr.findNow kd k l' 0 with
    | none=>rfl
    | some y=>rw[hx] at h1;cases h1
   obtain⟨r',g1,g2,g3⟩:=mO l l' 0 r h hr;refine⟨r',fin r' (by rw[key,hu,zQO,hn'];exact g1),g2,fun j v hj=>?_⟩;obtain⟨_,e,h3,h4⟩:=g3 j v hj;exact⟨e,by simpa using h3,h4⟩
theorem cK {r:Option Nat}(h:aH P f es.toList es'.toList)(hk:zGO P f k k')(hr:wP P kt k es.toList=some r) :
 k'=k∧(∀ w,(Instr.checkKey es'.isEmpty 10000 kt k).run P w=.ok () w)∧(∀ w,(Instr.checkKey false 10000 kt k).run P w=.ok () w) ∧
 ∃ r',(∀ w,(Instr.findKey kt k es'.toList).run P w=.ok r' w)∧r'.map (·.1)=r∧∀ j v,r'=some (j,v)->∃ e,es'[j]?=some e∧v=e.val:=by
 unfold wP at hr;split at hr
 ·rename_i hp;simp only[zPY] at hp;split at hr
  ·rename_i u1 u2 r0 h1 h2 h3;cases hr
   have hem:es'.isEmpty=es.toList.isEmpty:=by
    have:=h.1
    cases hx:es.toList with
    | nil=>rw[hx] at this;simp at this;simp;exact zRS this.symm
    | cons a b=>rw[hx] at this;simp at this;simp;intro hc;rw[hc] at this;simp at this
   obtain⟨r',g1,g2,g3⟩:=qNC h h3;refine⟨hk.plain hp.1,by rw[hem];exact uS _ h1,uS _ h2,r',g1,g2,fun j v hj=>?_⟩;obtain⟨e,q1,q2⟩:=g3 j v hj;exact⟨e,by simpa using q1,q2⟩
  ·cases hr
 ·cases hr
theorem nI {r:Nat}{e:Emb}(hR:Rel P f H w)(he:f r=some e)(hg:H.get r=some (.map es clk)) :
 e.ro=false∧∃ es',w.heap[e.r]?=some (.map es' clk)∧aH P f es.toList es'.toList:=by
 obtain⟨h0,es',h1,h2,h3⟩:=hR.obj r e _ he hg
 exact⟨h0,es',h1,by simpa using h2.symm,fun i x x' hx hx'=>by
  obtain⟨x2,g1,g2⟩:=h3 i x (by simpa using hx);rw[show es'[i]?=some x' by simpa using hx'] at g1
  cases g1;exact g2⟩
theorem qSR {v:Value}{ok:Bool}(hR:Rel P f H w)(h:qCN P t x k ok H=some v)(hx:zGO P f x x')(hk:zGO P f k k') :
 Post P f H w v H ((Instr.lookup t x' k' ok).run P w):=by
 unfold qCN at h;split at h
 ·rename_i kt et r hu
  ·obtain⟨e,he,rfl⟩:=hx.zHZ;split at h
   ·rename_i es clk hg;obtain⟨_,es',h1,h2⟩:=nI hR he hg;have hob:=yM (P:=P) h1 (fun _ _ _ hx=>by cases hx);split at h
    ·rename_i i hf;obtain⟨rfl,c1,_,r',c2,c3,c4⟩:=cK h2 hk hf;split at h
     ·rename_i en hen;cases h;obtain⟨⟨j,u⟩,rfl,hj⟩:=zP9.1 c3;simp only at hj;subst hj;obtain⟨e2,q1,rfl⟩:=c4 j u rfl;obtain⟨e3,q3,q4,q5,q6⟩:=h2.get (i:=j) (v:=en) (by simpa using hen);rw[show es'.toList[j]?=es'[j]? by simp,q1] at q3;cases q3;refine .same hR (v':=q40 ok e2.val true) ?_ ?_
      ·cases ok <;> simp[Instr.lookup,run_underlying hu,hob,c1,c2,q40]
      ·cases ok
       ·exact q6
       ·exact .zHA (.cons q6 (.cons (.base _ rfl) .nil))
     ·cases h
    ·rename_i hf;obtain⟨rfl,c1,_,r',c2,c3,c4⟩:=cK h2 hk hf;split at h
     ·rename_i z hz;split at h
      ·rename_i hpl;cases h;have hr':r'=none:=by cases r' <;> simp at c3 ⊢
       subst hr';refine .same hR (v':=q40 ok z false) ?_ ?_
       ·cases ok <;> simp[Instr.lookup,run_underlying hu,hob,c1,c2,wO hz,q40]
       ·cases ok
        ·exact .base _ hpl
        ·exact .zHA (.cons (.base _ hpl) (.cons (.base _ rfl) .nil))
      ·cases h
     ·cases h
    ·cases h
   ·cases h
 ·cases h
theorem aH.modify (h:aH P f l l')(i:Nat)(g g':MapEntry->MapEntry)
 (hg:∀ x x',(x'.key=x.key∧x'.born=x.born∧zGO P f x.val x'.val)->((g' x').key=(g x).key∧(g' x').born=(g x).born∧zGO P f (g x).val (g' x').val)) :
 aH P f (l.modify i g) (l'.modify i g'):=by
 refine⟨by simp[h.1],fun j x x' hx hx'=>?_⟩;rw[zUC] at hx hx';obtain⟨y,hy,rfl⟩:=zP9.1 hx;obtain⟨y',hy',rfl⟩:=zP9.1 hx';have:=h.2 j y y' hy hy';by_cases hij:i=j
 ·simp only[hij,if_true];exact hg y y' this
 ·simp only[hij,if_false];exact this
theorem aH.push (h:aH P f l l'){x x':MapEntry}(hx:x'.key=x.key∧x'.born=x.born∧zGO P f x.val x'.val):aH P f (l++[x]) (l'++[x']):=by
 induction l generalizing l' with
 | nil=>rw[h.zGT];exact .cons hx .nil
 | cons v l ih=>obtain⟨v',t',rfl,hv,ht⟩:=h.zGP;exact .cons hv (ih ht)
theorem gH {r:Nat}{o o1:Obj}(h:w.heap[r]?=some o)(hn:∀ c e z,o≠.cells c e z):(setObj r o1).run P w=.ok () (World.put w r o1):=by
 unfold setObj Sem.run;rw[h]
 cases o <;> first | (exact absurd rfl (hn _ _ _)) | rfl
theorem bP {r:Nat}{e:Emb}{es1 zIL:Array MapEntry}{zIE:Nat}(hR:Rel P f H w)(he:f r=some e)(hg:H.get r=some (.map es clk))
 (h0:w.heap[e.r]?=some (.map es' clk)) (h1:aH P f es1.toList zIL.toList) (hro:e.ro=false) :
 Rel P f (H.put r (.map es1 zIE)) (World.put w e.r (.map zIL zIE))∧Grow f H w f (H.put r (.map es1 zIE)) (World.put w e.r (.map zIL zIE))∧Keep f H (H.put r (.map es1 zIE)):=by
 have hlt:=hR.bound r e he;refine Rel.put (o1':=.map zIL zIE) hR he hg rfl hro ⟨hro,zIL,rfl,by simpa using h1.1.symm,fun i x hx=>?_⟩ (fun x=>heap_put hlt) (by simp[World.put]);obtain⟨x',q1,q2⟩:=h1.get (i:=i) (v:=x) (by simpa using hx);exact⟨x',by simpa using q1,q2⟩
theorem pJ {H':IH}{v v':Value}(hR:Rel P f H w)(h:xX P t x k v H=some H')(hx:zGO P f x x')(hk:zGO P f k k')(hv:zGO P f v v') :
 ∃ w',(Instr.mapUpdate t x' k' v').run P w=.ok () w'∧Rel P f H' w'∧Grow f H w f H' w'∧Keep f H H':=by
 unfold xX at h;split at h
 ·rename_i kt et r hu;obtain⟨e,he,rfl⟩:=hx.zHZ;split at h
  ·rename_i es clk hg;obtain⟨hro,es',h1,h2⟩:=nI hR he hg;have hob:=yM (P:=P) h1 (fun _ _ _ hx=>by cases hx);have hso:∀ o1,(setObj e.r o1).run P w=.ok () (World.put w e.r o1):=fun o1=>gH (P:=P) (o1:=o1) h1 (fun _ _ _ hx=>by cases hx)
   split at h
   ·split at h
    ·rename_i i hf;obtain⟨rfl,_,c1,r',c2,c3,c4⟩:=cK h2 hk hf;split at h
     ·rename_i en hen;split at h
      ·rename_i hsb;cases h;obtain⟨⟨j,u⟩,rfl,hj⟩:=zP9.1 c3;simp only at hj;subst hj;obtain⟨e2,q1,rfl⟩:=c4 j u rfl;obtain⟨e3,q3,q4,q5,q6⟩:=h2.get (i:=j) (v:=en) (by simpa using hen);rw[show es'.toList[j]?=es'[j]? by simp,q1] at q3;cases q3
       obtain⟨g1,g2,g3⟩:=bP (zIE:=clk) (es1:=es.modify j fun e=>{ e with key:=k',val:=v }) (zIL:=es'.modify j fun e=>{ e with key:=k',val:=v' }) hR he hg h1
        (by simpa [zS4] using h2.modify j (fun e=>{ e with key:=k',val:=v }) (fun e=>{ e with key:=k',val:=v' }) (fun x x' hxx=>⟨rfl,hxx.2.1,hv⟩)) hro
       refine⟨_,?_,g1,g2,g3⟩;rw[<-q4] at hsb;simp[Instr.mapUpdate,run_underlying hu,hob,c1,c2,q1,Instr.keyThatStays,hsb,hso]
      ·cases h
     ·cases h
    ·rename_i hf;obtain⟨rfl,_,c1,r',c2,c3,c4⟩:=cK h2 hk hf;cases h;have hr':r'=none:=by cases r' <;> simp at c3 ⊢
     subst hr'
     obtain⟨g1,g2,g3⟩:=bP (zIE:=clk+1) (es1:=es.push { key:=k',val:=v,born:=clk }) (zIL:=es'.push { key:=k',val:=v',born:=clk }) hR he hg h1
      (by simpa using h2.push (x:={ key:=k',val:=v,born:=clk }) (x':={ key:=k',val:=v',born:=clk }) ⟨rfl,rfl,hv⟩) hro
     refine⟨_,?_,g1,g2,g3⟩;simp[Instr.mapUpdate,run_underlying hu,hob,c1,c2,hso]
    ·cases h
   ·cases h
  ·cases h
 ·cases h
end Go.Idl
namespace Go.Idl
variable {P:Program}
variable {H H':IH}{f:Inj}{l':List MapEntry}{t:TypeId}{v x x':Value}{w:World}
theorem qJL {k k':Value}(hR:Rel P f H w)(h:wU P t x k H=some (.val v H'))(hx:zGO P f x x')(hk:zGO P f k k') :
 Post P f H w v H' ((Instr.mapEntry t x' k').run P w):=by
 unfold wU at h;split at h
 ·rename_i kt et r hu;obtain⟨e,he,rfl⟩:=hx.zHZ;split at h
  ·rename_i es clk hg;obtain⟨hro,es',h1,h2⟩:=nI hR he hg;have hob:=yM (P:=P) h1 (fun _ _ _ hx=>by cases hx);have hso:∀ o1,(setObj e.r o1).run P w=.ok () (World.put w e.r o1):=fun o1=>gH (P:=P) (o1:=o1) h1 (fun _ _ _ hx=>by cases hx)
   split at h
   ·split at h
    ·rename_i i hf;obtain⟨rfl,_,c1,r',c2,c3,c4⟩:=cK h2 hk hf;split at h
     ·rename_i en hen;split at h
      ·rename_i hsb;obtain⟨rfl,rfl⟩:=val_inj h;obtain⟨⟨j,u⟩,rfl,hj⟩:=zP9.1 c3;simp only at hj;subst hj;obtain⟨e2,q1,rfl⟩:=c4 j u rfl;obtain⟨e3,q3,q4,q5,q6⟩:=h2.get (i:=j) (v:=en) (by simpa using hen);rw[show es'.toList[j]?=es'[j]? by simp,q1] at q3;cases q3
       obtain⟨g1,g2,g3⟩:=bP (zIE:=clk) (es1:=es.modify j fun e=>{ e with key:=k' }) (zIL:=es'.modify j fun e=>{ e with key:=k' }) hR he hg h1
        (by simpa [zS4] using h2.modify j (fun e=>{ e with key:=k' }) (fun e=>{ e with key:=k' }) (fun x x' hxx=>⟨rfl,hxx.2.1,hxx.2.2⟩)) hro
       refine⟨.tuple #[e2.val,goInt en.born],_,f,?_,g1,g2,.zHA (.cons q6 (.cons (.base _ rfl) .nil)),g3⟩;rw[<-q4] at hsb;simp[Instr.mapEntry,run_underlying hu,hob,c1,c2,q1,Instr.keyThatStays,hsb,hso,q5]
      ·cases h
     ·cases h
    ·rename_i hf;obtain⟨rfl,_,c1,r',c2,c3,c4⟩:=cK h2 hk hf;split at h
     ·rename_i z hz;split at h
      ·rename_i hpl;obtain⟨rfl,rfl⟩:=val_inj h;have hr':r'=none:=by cases r' <;> simp at c3 ⊢
       subst hr'
       obtain⟨g1,g2,g3⟩:=bP (zIE:=clk+1) (es1:=es.push { key:=k',val:=z,born:=clk }) (zIL:=es'.push { key:=k',val:=z,born:=clk }) hR he hg h1
        (by simpa using h2.push (x:={ key:=k',val:=z,born:=clk }) (x':={ key:=k',val:=z,born:=clk }) ⟨rfl,rfl,.base _ hpl⟩) hro
       refine⟨.tuple #[z,goInt clk],_,f,?_,g1,g2,.zHA (.cons (.base _ hpl) (.cons (.base _ rfl) .nil)),g3⟩;simp[Instr.mapEntry,run_underlying hu,hob,c1,c2,wO hz,hso]
      ·cases h
     ·cases h
    ·cases h
   ·cases h
  ·cases h
 ·cases h
theorem findIdx_born {f:Inj}{b:Int}:∀ (l l':List MapEntry),aH P f l l'->l'.findIdx? (fun e=>(e.born:Int)==b)=l.findIdx? (fun e=>(e.born:Int)==b)
 | [],l',h=>by rw[h.zGT]
 | e::l,l',h=>by
   obtain⟨e',t',rfl,he,ht⟩:=h.zGP;simp only[List.findIdx?_cons,he.2.1,findIdx_born l t' ht]
theorem qD2 {s s' v':Value}(hR:Rel P f H w)(h:fK x s v H=some H')(hx:zGO P f x x')(hs:zGO P f s s')(hv:zGO P f v v') :
 ∃ w',(Instr.entryStore t x' s' v').run P w=.ok () w'∧Rel P f H' w'∧Grow f H w f H' w'∧Keep f H H':=by
 unfold fK at h;split at h
 ·rename_i r k born;obtain⟨e,he,rfl⟩:=hx.zHZ;have:=hs.int;subst this;split at h
  ·rename_i es clk hg;obtain⟨hro,es',h1,h2⟩:=nI hR he hg;have hob:=yM (P:=P) h1 (fun _ _ _ hx=>by cases hx);have hso:∀ o1,(setObj e.r o1).run P w=.ok () (World.put w e.r o1):=fun o1=>gH (P:=P) (o1:=o1) h1 (fun _ _ _ hx=>by cases hx)
   split at h
   ·split at h
    ·rename_i i hi;cases h
     have hi':es'.findIdx? (fun e=>(e.born:Int)==born)=some i:=by
      have e1:∀ es:Array MapEntry,es.findIdx? (fun e=>(e.born:Int)==born)=es.toList.findIdx? (fun e=>(e.born:Int)==born):=fun es=>by rw[<-List.findIdx?_toArray]
      rw[e1] at hi ⊢;rw[findIdx_born _ _ h2];exact hi
     obtain⟨g1,g2,g3⟩:=bP (zIE:=clk) (es1:=es.modify i fun e=>{ e with val:=v }) (zIL:=es'.modify i fun e=>{ e with val:=v' }) hR he hg h1
      (by simpa [zS4] using h2.modify i (fun e=>{ e with val:=v }) (fun e=>{ e with val:=v' }) (fun x x' hxx=>⟨hxx.1,hxx.2.1,hv⟩)) hro
     exact⟨_,by simp[Instr.entryStore,hob,asInt,asIntOf,hi',hso],g1,g2,g3⟩
    ·cases h
   ·cases h
  ·cases h
 ·cases h
theorem bG (hR:Rel P f H w):f H.size=none:=by
 cases hx:f H.size with
 | none=>rfl
 | some y=>have:=hR.dom _ _ hx;omega
theorem qW5 (hR:Rel P f H w)(h:qI9 P t x H=some (.val v H'))(hx:zGO P f x x') :
 Post P f H w v H' ((Instr.range t x').run P w):=by
 unfold qI9 at h;split at h
 ·rename_i s hu;have:=hx.str;subst this;obtain⟨rfl,rfl⟩:=val_inj h
  have hO:qAP P (f.add H.size ⟨w.heap.size,0,0,false⟩) ⟨w.heap.size,0,0,false⟩ (.stringIter s 0) (some (.stringIter s 0)):=⟨rfl,rfl,rfl⟩
  obtain⟨g1,g2⟩:=Rel.push hR rfl hO;exact⟨_,_,_,by simp[Instr.range,run_underlying hu,newObj,Sem.run],g1,g2,qHK Inj.add_same rfl rfl,.push⟩
 ·rename_i k el m hu;obtain⟨e,he,rfl⟩:=hx.zHZ;split at h
  ·rename_i es clk hg;obtain⟨hro,es',h1,h2⟩:=nI hR he hg;have hob:=yM (P:=P) h1 (fun _ _ _ hx=>by cases hx);obtain⟨rfl,rfl⟩:=val_inj h;have hle:f.le (f.add H.size ⟨w.heap.size,0,0,false⟩):=Inj.zHU (bG hR)
   have hO:qAP P (f.add H.size ⟨w.heap.size,0,0,false⟩) ⟨w.heap.size,0,0,false⟩ (.mapIter (some m) clk #[] 0) (some (.mapIter (some e.r) clk #[] clk)) :=
    ⟨rfl,rfl,e,#[],clk,hle _ _ he,rfl,(fun x=>by simp),(fun n hn=>by cases hn),(fun _=>rfl),(fun x hx=>absurd hx (by simp))⟩
   obtain⟨g1,g2⟩:=Rel.push hR rfl hO;refine⟨_,_,_,?_,g1,g2,qHK Inj.add_same rfl rfl,.push⟩;simp[Instr.range,run_underlying hu,hob,newObj,Sem.run]
  ·cases h
 ·cases h
theorem aG {n x:Nat}:∀ {l:List Nat},x∈insertSorted n l ↔ x=n∨x∈l
 | []=>by simp[insertSorted]
 | m::l=>by
   unfold insertSorted;split
   ·simp
   ·simp only[zQK,aG (l:=l)];constructor
    ·rintro (h | h | h)
     ·exact .inr (.inl h)
     ·exact .inl h
     ·exact .inr (.inr h)
    ·rintro (h | h | h)
     ·exact .inr (.inl h)
     ·exact .inl h
     ·exact .inr (.inr h)
theorem aH.filter {f:Inj}{p p':MapEntry->Bool}:∀ (l l':List MapEntry),aH P f l l'->(∀ x x':MapEntry,x'.born=x.born->p' x'=p x)->aH P f (l.filter p) (l'.filter p')
 | [],l',h,_=>by rw[h.zGT];exact .nil
 | e::l,l',h,hp=>by
   obtain⟨e',t',rfl,he,ht⟩:=h.zGP;have:=hp e e' he.2.1;simp only[zS1,this];split
   ·exact .cons he (aH.filter l t' ht hp)
   ·exact aH.filter l t' ht hp
def zD5 (P:Program)(f:Inj)(H:IH)(w:World)(n:Nat)(k:Nat->Option (Value×IH))(r:Result Value):Prop :=
 ∃ i,i < n∧∀ v H',k i=some (v,H')->Post P f H w v H' r
theorem q4O (n:Nat)(h:0 < n)(w:World):(Question.mapNext n).cut (w.tape w.drawn (.mapNext n)) < n:=by
 simp[Question.cut];exact Nat.mod_lt _ h
theorem qYI (hR:Rel P f H w)(h:qKW x true H=some (.val v H'))(hx:zGO P f x x') :
 Post P f H w v H' ((Instr.next x' true t).run P w):=by
 unfold qKW at h;split at h
 ·rename_i r;obtain⟨e,he,rfl⟩:=hx.zHC;split at h
  ·rename_i s pos hg _;obtain⟨hro,hsh,h1⟩:=hR.obj r e _ he hg;have hob:=yM (P:=P) h1 (fun _ _ _ hx=>by cases hx);have hso:∀ o1,(setObj e.r o1).run P w=.ok () (World.put w e.r o1):=fun o1=>gH (P:=P) (o1:=o1) h1 (fun _ _ _ hx=>by cases hx)
   split at h
   ·split at h
    ·rename_i hlt;obtain⟨rfl,rfl⟩:=val_inj h
     obtain⟨g1,g2,g3⟩:=Rel.put (o1:=.stringIter s (pos+(Utf8.decode s pos).2)) (o1':=.stringIter s (pos+(Utf8.decode s pos).2)) (w':=World.put w e.r (.stringIter s (pos+(Utf8.decode s pos).2)))
      hR he hg rfl hro ⟨hro,hsh,rfl⟩ (fun x=>heap_put (hR.bound r e he)) (by simp[World.put])
     refine⟨.tuple #[.bool true,goInt pos,.int .i32 (Utf8.decode s pos).1],_,f,?_,g1,g2,.zHA (.cons (.base _ rfl) (.cons (.base _ rfl) (.cons (.base _ rfl) .nil))),g3⟩;simp[Instr.next,hsh,hob,hlt,hso]
    ·rename_i hlt;obtain⟨rfl,rfl⟩:=val_inj h;refine .same hR (v':=.tuple #[.bool false]) ?_ (.zHA (.cons (.base _ rfl) .nil));simp[Instr.next,hsh,hob,hlt]
   ·cases h
  ·rename_i hb;cases hb
  ·cases h
 ·cases h
theorem filter_none {l:List MapEntry}(h:aH P f l l'){p:MapEntry->Bool}(hp:∀ x x':MapEntry,x'.born=x.born->p x'=p x)(h0:∀ x∈l,p x=false):l'.filter p=[]:=by
 have:=(aH.filter (p:=p) (p':=p) l l' h hp)
 rw[List.filter_eq_nil_iff.2 (fun x hx=>by simp[h0 x hx])] at this;exact this.zGT
theorem filter_all {l:List MapEntry}(h:aH P f l l'){p:MapEntry->Bool}(hp:∀ x x':MapEntry,x'.born=x.born->p x'=p x)(h0:∀ x∈l,p x=true):l'.filter p=l':=by
 rw[List.filter_eq_self];intro x hx;obtain⟨i,hi,rfl⟩:=zSW.1 hx;have hi2:i < l.length:=by rw[h.1];exact hi
 have:=h.2 i l[i] l'[i] (zP2 hi2) (zP2 hi);rw[hp _ _ this.2.1];exact h0 _ (zSN hi2)
def q1K (P:Program)(f:Inj)(H:IH)(w:World)(s:zGU)(r:Result Value):Prop :=
 match s with
 | .val v H'=>Post P f H w v H' r
 | .choice n k=>zD5 P f H w n k r
 | _=>False
theorem qUN {s:zGU}(hR:Rel P f H w)(h:qKW x false H=some s)(hx:zGO P f x x') :
 q1K P f H w s ((Instr.next x' false t).run P w):=by
 unfold qKW at h;split at h
 ·rename_i r;obtain⟨e,he,rfl⟩:=hx.zHC;split at h
  ·rename_i hb;cases hb
  ·rename_i m since seen last hg _;obtain⟨hro,hsh,em,seen',st,hm,h1,zJK,hlast,hst,hlt⟩:=hR.obj r e _ he hg;have hob:=yM (P:=P) h1 (fun _ _ _ hx=>by cases hx);have hso:∀ o1 w',w'.heap=w.heap->(setObj e.r o1).run P w'=.ok () (World.put w' e.r o1):=fun o1 w' hw'=>gH (P:=P) (o:=.mapIter (some em.r) since seen' st) (o1:=o1) (by rw[hw'];exact h1) (fun _ _ _ hx=>by cases hx)
   split at h
   ·rename_i es clk hgm;obtain⟨zNR,es',h2,hE⟩:=nI hR hm hgm;have zIV:=yM (P:=P) h2 (fun _ _ _ hx=>by cases hx);split at h
    ·rename_i hc;simp only[zPY,beq_iff_eq,decide_eq_true_eq,zSE] at hc;obtain⟨⟨hbase,zNS⟩,hborn⟩:=hc;subst zNS;have hbl:∀ x∈es.toList,decide (x.born < clk)=true:=fun x hx=>by have:=hborn x (by simpa using hx);simpa using this
     -- the guard against entries that are all new
     have hguard:(!seen'.isEmpty&&!es'.isEmpty&&es'.all fun e=>decide (e.born ≥ st))=false:=by
      by_cases hse:seen'.isEmpty=true
      ·simp[hse]
      ·have hst':=hst (by simpa using hse);subst hst';by_cases hee:es'.isEmpty=true
       ·simp[hee]
       ·have hne:es'.size≠0:=fun h0=>hee (by simpa using zRS h0)
        have hl:0 < es'.toList.length:=by simpa using Nat.pos_of_ne_zero hne
        have hl2:0 < es.toList.length:=by rw[hE.1];exact hl
        have h3:=hE.2 0 _ _ (zP2 hl2) (zP2 hl);have h4:=hbl _ (zSN hl2);rw[Bool.and_eq_false_iff];right;rw[zTX];intro hall;rw[zSE] at hall;have h5:=hall es'.toList[0] (zRC.2 (zSN hl));rw[h3.2.1] at h5;simp at h4 h5;omega
     have hsc:∀ b,seen'.contains b=seen.contains b:=fun b=>by
      rw[Bool.eq_iff_iff];simp only[Array.contains_iff_mem];rw[zJK b];simp
     have zIW:aH P f (es.filter fun e=>!seen.contains e.born).toList (es'.filter fun e=>!seen'.contains e.born).toList:=by
      rw[zS5,zS5];exact aH.filter _ _ hE (fun x x' hxx=>by rw[hxx,hsc])
     have hlb:∀ x∈(es.filter fun e=>!seen.contains e.born).toList,decide (x.born < clk)=true:=fun x hx=>by
      rw[zS5] at hx;exact hbl x ((zUD.1 hx).1)
     generalize hleft:(es.filter fun e=>!seen.contains e.born)=left at *;generalize zJ3:(es'.filter fun e=>!seen'.contains e.born)=left' at *
     have hold:left'.filter (fun e=>decide (e.born < clk))=left':=by
      apply zRH;rw[zS5];exact filter_all zIW (fun x x' hxx=>by rw[hxx]) hlb
     have hnew:left'.filter (fun e=>decide (e.born ≥ clk))=#[]:=by
      apply zRH;rw[zS5];exact filter_none zIW (fun x x' hxx=>by rw[hxx]) (fun x hx=>by have:=hlb x hx;simp at this ⊢;exact this)
     have hsz:left'.size=left.size:=by simpa using zIW.1.symm
     unfold qHF at h;split at h
     ·rename_i hem;cases h;have hl0:left'=#[]:=zRS (by rw[hsz];simpa using hem)
      have hsame:∀ x:Nat,w.heap[x]?=if x=e.r then some (.mapIter (some em.r) clk seen' st) else w.heap[x]?:=by
       intro x;by_cases hxe:x=e.r
       ·rw[if_pos hxe,hxe,h1]
       ·rw[if_neg hxe]
      obtain⟨g1,g2,g3⟩:=Rel.put (o1:=.mapIter (some m) clk seen 0) (o1':=.mapIter (some em.r) clk seen' st) (w':=w)
       hR he hg rfl hro ⟨hro,hsh,em,seen',st,hm,rfl,zJK,(fun n hn=>by cases hn),hst,hlt⟩ hsame rfl
      refine⟨.tuple #[.bool false],w,f,?_,g1,g2,.zHA (.cons (.base _ rfl) .nil),g3⟩;subst hl0;simp only[Instr.next,hsh,zQI,Sem.run_bind,hob,Result.andThen_ok,zIV,hguard,zRY,if_false,zJ3,hold,hnew];simp[choose,Sem.run,Question.forced]
     ·rename_i hem;cases h;have hne:0 < left'.size:=by rw[hsz];exact Nat.pos_of_ne_zero fun h0=>hem (by simpa using zRS h0)
      -- whichever entry comes
      have post:∀ (i:Nat) (w':World),w'.heap=w.heap->(w'.os=w.os∧w'.output=w.output∧w'.tape=w.tape)->i < left.size->∀ v H',(match left[i]? with
       | some en=>if !zN en.key then none else some (Value.tuple #[.bool true,en.key,en.val],H.put r (.mapIter (some m) clk (insertSorted en.born seen.toList).toArray (en.born+1)))
       | none=>none)=some (v,H')->∃ en',left'[i]?=some en'∧Post P f H w v H' (.ok (.tuple #[.bool true,en'.key,en'.val]) (World.put w' e.r (.mapIter (some em.r) clk (seen'.push en'.born) clk))):=by
       intro i w' hw' hot hi v H' hk;split at hk
       ·rename_i en hen;split at hk
        ·cases hk
        ·rename_i hpl;cases hk;have hpl:zN en.key=true:=by simpa using hpl
         obtain⟨en',q1,q2,q3,q4⟩:=zIW.get (i:=i) (v:=en) (by simpa using hen);refine⟨en',by simpa using q1,?_⟩
         obtain⟨g1,g2,g3⟩:=Rel.put (o1:=.mapIter (some m) clk (insertSorted en.born seen.toList).toArray (en.born+1)) (o1':=.mapIter (some em.r) clk (seen'.push en'.born) clk)
          (w':=World.put w' e.r (.mapIter (some em.r) clk (seen'.push en'.born) clk)) hR he hg rfl hro
          ⟨hro,hsh,em,_,_,hm,rfl,(fun x=>by rw[q3];simp[aG,zJK x,or_comm]),(fun n hn=>by simp at hn;simp[q3,hn]),(fun _=>rfl),(fun x hx=>by
            rw[Array.mem_push] at hx;rcases hx with hx | hx
            ·exact hlt x hx
            ·rw[hx,q3]
             have:=hlb en (by
              have:=zT4.2 ⟨i,show left.toList[i]?=some en by simpa using hen⟩
              exact this)
             simpa using this)⟩
          (fun x=>by rw[heap_put (by rw[hw'];exact hR.bound r e he),hw']) (by simp[World.put,hw']) hot
         exact⟨_,_,f,rfl,g1,g2,.zHA (.cons (.base _ rfl) (.cons (by rw[q2];exact .base _ hpl) (.cons q4 .nil))),g3⟩
       ·cases hk
      have zNT:left'.isEmpty=false:=by
       rw[zTX];intro hc;have:left'.size=0:=by simpa using hc
       omega
      have zMH:((if left'.isEmpty=true then #[none] else #[])++Array.map some (left'++#[]))=left'.map some:=by simp[zNT]
      have zJ4:∀ i w' en',left'[i]?=some en'->w'.heap=w.heap->(choose (.mapNext left'.size)).run P w=.ok i w' ->
       (Instr.next (.pointer (some ⟨e.r,0+e.shift,none⟩)) false t).run P w=.ok (.tuple #[.bool true,en'.key,en'.val]) (World.put w' e.r (.mapIter (some em.r) clk (seen'.push en'.born) clk)):=by
       intro i w' en' hi hw' hch;simp only[Instr.next,hsh,zQI,Sem.run_bind,hob,Result.andThen_ok,zIV,hguard,zRY,if_false,zJ3,hold,hnew,zMH,Array.size_map];rw[hch];simp[hi,hso _ w' hw']
      by_cases hone:left'.size<=1
      ·refine⟨0,by omega,fun v H' hk=>?_⟩;obtain⟨en',q1,q2⟩:=post 0 w rfl ⟨rfl,rfl,rfl⟩ (by omega) v H' hk;rw[zJ4 0 w en' q1 rfl (by simp[choose,Sem.run,Question.forced,hone])];exact q2
      ·refine⟨(Question.mapNext left'.size).cut (w.tape w.drawn (.mapNext left'.size)),?_,fun v H' hk=>?_⟩
       ·rw[<-hsz];exact q4O _ hne w
       ·obtain⟨en',q1,q2⟩:=post _ w.drew rfl ⟨rfl,rfl,rfl⟩ (by rw[<-hsz];exact q4O _ hne w) v H' hk
        rw[zJ4 _ w.drew en' q1 rfl (by
         unfold choose Sem.run;rw[if_neg (by simpa [Question.forced] using hone)]
         rfl)]
        exact q2
    ·cases h
   ·cases h
  ·cases h
 ·cases h
theorem qZC (hR:Rel P f H w)(h:qEG x H=some v)(hx:zGO P f x x') :
 Post P f H w v H ((Instr.entry x').run P w):=by
 unfold qEG at h;split at h
 ·rename_i r;obtain⟨e,he,rfl⟩:=hx.zHC;split at h
  ·rename_i m since seen last hg;obtain⟨hro,hsh,em,seen',st,hm,h1,zJK,hlast,hst,hlt⟩:=hR.obj r e _ he hg;have hob:=yM (P:=P) h1 (fun _ _ _ hx=>by cases hx);split at h
   ·rename_i es clk hgm;obtain⟨zNR,es',h2,hE⟩:=nI hR hm hgm;have zIV:=yM (P:=P) h2 (fun _ _ _ hx=>by cases hx);split at h
    ·rename_i hc;simp only[beq_iff_eq] at hc;subst hc;have hback:=hlast last rfl
     have hst':=hst (by
      rw[zTX];intro hcc;have:seen'=#[]:=by simpa using hcc
      rw[this] at hback;simp at hback)
     subst hst';split at h
     ·rename_i en hen;split at h
      ·rename_i hpl;cases h
       have:∃ en',es'.find? (fun e=>e.born==last)=some en'∧en'.key=en.key∧zGO P f en.val en'.val:=by
        have key:∀ (l l':List MapEntry),aH P f l l'->l.find? (fun e=>e.born==last)=some en->∃ en',l'.find? (fun e=>e.born==last)=some en'∧en'.key=en.key∧zGO P f en.val en'.val:=by
         intro l
         induction l with
         | nil=>intro l' _ hf;simp at hf
         | cons a l ih =>
           intro l' hE hf;obtain⟨a',t',rfl,ha,ht⟩:=hE.zGP;simp only[List.find?_cons,ha.2.1] at hf ⊢;split at hf
           ·cases hf;exact⟨a',rfl,ha.1,ha.2.2⟩
           ·exact ih t' ht hf
        obtain⟨en',q1,q2⟩:=key es.toList es'.toList hE (by simpa using hen);exact⟨en',by simpa using q1,q2⟩
       obtain⟨en',q1,q2,q3⟩:=this;refine .same hR (v':=.tuple #[en'.key,en'.val]) ?_ (.zHA (.cons (by rw[q2];exact .base _ hpl) (.cons q3 .nil)));simp[Instr.entry,hsh,hob,zIV,hback,q1]
      ·cases h
     ·cases h
    ·cases h
   ·cases h
  ·cases h
 ·cases h
end Go.Idl
namespace Go.Idl
variable {P:Program}
variable {H:IH}{as:List Value}{c:Call}{f:Inj}{fn:Func}{g:FuncId}{o:Oper}{ts:Array TypeId}{w:World}{ρ:Operand->Value}
theorem qG3:Extern.allNextRows.lookup "internal/abi.NoEscape" = none:=by kernel_rfl
theorem qST:Extern.allNextRows.lookup "" = none:=by kernel_rfl
theorem qAE:Extern.allGenericRows.lookup "internal/abi.NoEscape" = none:=by kernel_rfl
theorem qDX:Extern.allTypedRows.lookup "internal/abi.NoEscape" = none:=by kernel_rfl
theorem qI4:Extern.allRows.lookup "internal/abi.NoEscape" = some Extern.AbiNoEscape.same:=by kernel_rfl
theorem qGH (hn:fn.name = "internal/abi.NoEscape")(ho:fn.origin = ""):Extern.findNext fn=none∧Extern.find fn=some Extern.AbiNoEscape.same:=by
 unfold Extern.findNext Extern.find;simp only[hn,ho,qG3,qST,qAE,qDX,qI4];exact⟨rfl,rfl⟩
theorem bN {x:Value}(hf:P.funcs[g]?=some fn)(hb:fn.body.isSome=false)(hn:fn.name = "internal/abi.NoEscape")(ho:fn.origin = "") :
 (callFunc g #[x]).run P w=.ok (.value x) w:=by
 obtain⟨h1,h2⟩:=qGH hn ho
 have h3:fn.name ≠ "runtime.NumGoroutine" := by rw[hn];decide
 have h4:fn.body=none:=by cases hx:fn.body <;> simp[hx] at hb ⊢
 have h5:(Extern.AbiNoEscape.same #[x]).run P w=.ok x w:=rfl;unfold callFunc;simp[hf,h3,h4,h1,h2,h5]
theorem run_callFunc_enter {args:Array Value}(hf:P.funcs[g]?=some fn)(hb:fn.body.isSome=true)(hn:(fn.name != "runtime.NumGoroutine")=true) :
 (callFunc g args).run P w=.ok (.enter g args) w:=by
 have h3:fn.name ≠ "runtime.NumGoroutine" := by simpa [bne] using hn
 have h4:fn.body≠none:=by cases hx:fn.body <;> simp[hx] at hb ⊢
 unfold callFunc;simp[hf,h3,h4]
def qFV (P:Program)(f:Inj)(H:IH)(w:World)(s:zGU)(r:Result Next):Prop :=
 match s with
 | .val v H'=>sN P f H w v H' r
 | .enter g args H'=>H'=H∧∃ args',qD P f args args'∧r=.ok (.enter g args'.toArray) w
 | .round l args H'=>H'=H∧∃ e args',f l=some e∧qD P f args args'∧r=(Instr.yield e.r args'.toArray).run P w
 | .choice n k=>∃ i,i < n∧∀ v H',k i=some (v,H')->sN P f H w v H' r
theorem qD.map {f:Inj}{α:Type}(g g':α->Value):∀ (l:List α),(∀ x∈l,zGO P f (g x) (g' x))->qD P f (l.map g) (l.map g')
 | [],_=>.nil
 | a::l,h=>.cons (h a (by simp)) (qD.map g g' l fun x hx=>h x (by simp[hx]))
theorem sN.of_run {H':IH}{v:Value}{s:Sem Value}(he:execOp ρ o=(do pure (Next.value (<- s))))(h:Post P f H w v H' (s.run P w)) :
 sN P f H w v H' ((execOp ρ o).run P w):=by rw[he];exact h.next
theorem val_append {s:zGU}(h:u7 P ts as H=some s):∃ v H',s=.val v H':=by
 unfold u7 wL qNY qSG at h
 repeat' split at h
 all_goals first | (cases h;exact⟨_,_,rfl⟩) | cases h
theorem q04 {s:zGU}(h:qD7 P ts as H=some s):∃ v H',s=.val v H':=by
 unfold qD7 uL at h
 repeat' split at h
 all_goals first | (cases h;exact⟨_,_,rfl⟩) | cases h
theorem q9H {s:zGU}(h:pM P ts as H=some s):∃ v H',s=.val v H':=by
 unfold pM at h
 repeat' split at h
 all_goals first | (cases h;exact⟨_,_,rfl⟩) | cases h
theorem qAC {s:zGU}(h:xV P ts as H=some s):∃ v H',s=.val v H':=by
 unfold xV at h
 repeat' split at h
 all_goals first | (cases h;exact⟨_,_,rfl⟩) | cases h
theorem qNL {b:Builtin}{t:TypeId}{cs:Array Bool}{as':List Value}{s:zGU}(hR:Rel P f H w)(h:yG P b c as H=some s)(ha:qD P f as as') :
 qFV P f H w s ((builtin b c.argTypes t cs as'.toArray).run P w):=by
 unfold yG at h;split at h
 ·obtain⟨v,H',rfl⟩:=val_append h;exact (qSH (t:=t) hR h ha).next
 ·obtain⟨v,H',rfl⟩:=q04 h;exact (q1R (t:=t) hR h ha).next
 ·obtain⟨v,H',rfl⟩:=q9H h;exact (q9O (t:=t) hR h ha).next
 ·split at h
  ·rename_i l c';cases h;obtain⟨x',r,rfl,hx,hr⟩:=ha.zGP;have:=hr.zGT;subst this;exact (qMI c.argTypes t hR hx).next
  ·rename_i a l c';split at h
   ·rename_i hc;cases h;obtain⟨x',r,rfl,hx,hr⟩:=ha.zGP;have:=hr.zGT;subst this;exact (qGE c.argTypes t hR rfl (by simpa using hc) hx).next
   ·cases h
  ·cases h
 ·obtain⟨v,H',rfl⟩:=qAC h;exact (qAG (t:=t) hR h ha).next
 ·cases h
theorem q14 {o:Oper}{env:Env}{s:zGU}(hR:Rel P f H w)(ho:o.op=.call c)(h:fP P c env H=some s)
 (hρ:∀ x∈o.op.operands,zGO P f (env.val x) (ρ x)):qFV P f H w s ((execOp ρ o).run P w):=by
 have zJJ:execOp ρ o=(do let d <- resolve ρ c o.type;invoke d.target d.args):=by unfold execOp;rw[ho]
 have hargs:qD P f (jA env.val c.args.toList) (c.args.map ρ).toList:=by
  rw[xI,zSO];refine qD.map _ _ _ fun x hx=>hρ x ?_
  rw[ho];simp only[Op.operands,Call.operands,zSF];right;simpa using hx
 unfold fP at h;simp only at h;split at h
 ·rename_i b hb
  have:∃ cs,(execOp ρ o).run P w=(builtin b c.argTypes o.type cs (c.args.map ρ)).run P w:=by
   rw[zJJ];simp only[resolve,hb,invoke,Sem.run_bind,Sem.run_pure,Result.andThen_ok];exact⟨_,rfl⟩
  obtain⟨cs,this⟩:=this;rw[this];have:=qNL (t:=o.type) (cs:=cs) hR h hargs
  rwa [Array.toArray_toList] at this
 ·cases h
 ·rename_i fv hb;have hfv:zGO P f (env.val fv) (ρ fv):=hρ fv (by rw[ho];simp[Op.operands,Call.operands,hb])
  have hrun:∀ fn first captured,ρ fv=.func fn first captured->(execOp ρ o).run P w=(invoke (.fn fn captured) (first++c.args.map ρ)).run P w:=by
   intro fn first captured he
   rw[zJJ];simp[resolve,hb,Deferred.ofValue,he]
  split at h
  ·rename_i g first captured he
   rw[he] at hfv
   rcases hfv.zHV with ⟨g',a',c',hg,hv,h1,h2⟩ | ⟨l,e,hg,_⟩
   ·cases hg;rw[hrun _ _ _ hv]
    have hall:qD P f (qFR first.toList (qFR (jA env.val c.args.toList) captured.toList)) (a'.toList++((c.args.map ρ).toList++c'.toList)):=by
     rw[bQ,bQ];exact h1.append (hargs.append h2)
    have harr:a'++Array.map ρ c.args++c'=(a'.toList++((c.args.map ρ).toList++c'.toList)).toArray:=by apply zRH;simp
    split at h
    ·rename_i fn hfn;split at h
     ·rename_i hbody;split at h
      ·rename_i hname;cases h;refine⟨rfl,_,hall,?_⟩;simp only[invoke];rw[run_callFunc_enter hfn hbody hname,harr]
      ·cases h
     ·rename_i hbody;split at h
      ·rename_i hname;simp only[zPY,beq_iff_eq] at hname;split at h
       ·rename_i v hv1;cases h;rw[hv1] at hall;obtain⟨v',r,h3,h4,h5⟩:=hall.zGP;have:=h5.zGT;subst this;refine⟨.value v',v',w,f,?_,.inl rfl,hR,.refl _ _ _,h4,.refl _ _⟩;simp only[invoke];rw[harr,h3];exact bN hfn (by simpa using hbody) hname.1 hname.2
       ·cases h
      ·cases h
    ·cases h
   ·cases hg
  ·rename_i l first captured he
   rw[he] at hfv
   rcases hfv.zHV with ⟨g',a',c',hg,_⟩ | ⟨l',e,hg,hf1,hc1,hfl,hv⟩
   ·cases hg
   ·cases hg;split at h
    ·cases h;refine⟨rfl,e,_,hfl,hargs,?_⟩;rw[hrun _ _ _ hv,Array.empty_append,Array.toArray_toList];rfl
    ·cases h
  ·cases h
end Go.Idl
namespace Go.Idl
variable {P:Program}
variable {H H':IH}{env:Env}{f:Inj}{o:Oper}{v:Value}{w:World}{ρ:Operand->Value}
theorem p9 {u:Sem Unit}{r:Option IH}(hr:qIE r=some (.val v H'))(he:execOp ρ o=(do u;pure .skip))
 (h:∀ H2,r=some H2->∃ w',u.run P w=.ok () w'∧Rel P f H2 w'∧Grow f H w f H2 w'∧Keep f H H2):sN P f H w v H' ((execOp ρ o).run P w):=by
 cases r with
 | none=>cases hr
 | some H2 =>
   obtain⟨rfl,rfl⟩:=val_inj hr;obtain⟨w',h1,h2,h3,h4⟩:=h H2 rfl;exact⟨.skip,undef,w',f,by rw[he];simp[h1],.inr ⟨rfl,rfl⟩,h2,h3,.undef,h4⟩
theorem qAT {r:Option IH}{s:zGU}(h:qIE r=some s):∃ v H',s=.val v H':=by
 cases r with
 | none=>cases h
 | some H2=>cases h;exact⟨_,_,rfl⟩
theorem wV {r:Option Value}{s:zGU}(h:zGU.ofO H r=some s):∃ v,s=.val v H∧r=some v:=by
 cases r with
 | none=>cases h
 | some v=>cases h;exact⟨_,rfl,rfl⟩
theorem qGI {s:zGU}(h:jE P o env H=some s):∃ v H',s=.val v H':=by
 obtain⟨v,rfl,_⟩:=qH6 h;exact⟨_,_,rfl⟩
theorem qZT {op:BinOp}{t:TypeId}{x y:Value}{s:zGU}(h:yX P o op t x y env H=some s):∃ v H',s=.val v H':=by
 have hnil:zG2 P o op t x y env H=some s->∃ v H',s=.val v H':=by
  intro h;unfold zG2 at h
  repeat' split at h
  all_goals first | (cases h;exact⟨_,_,rfl⟩) | exact qGI h
 unfold yX at h;split at h
 ·split at h
  ·unfold zHI at h;rw[cond_eq_ite] at h;split at h
   ·split at h
    ·cases h;exact⟨_,_,rfl⟩
    ·exact qGI h
   ·exact qGI h
  ·exact hnil h
 ·exact hnil h
theorem Post.zHE {s:Sem Value}(h:Post P f H w v H' (s.run P w))(he:execOp ρ o=(do pure (Next.value (<- s)))) :
 qFV P f H w (.val v H') ((execOp ρ o).run P w):=sN.of_run he h
theorem rW (x:Option Operand)(h:∀ y∈x.toArray,zGO P f (env.val y) (ρ y)):gU P f (x.map env.val) (x.map ρ):=by
 cases x with
 | none=>trivial
 | some y=>exact h y (by simp)
theorem q6P {o:Oper}{s:zGU}(hR:Rel P f H w)(h:iop P o env H=some s)
 (hρ:∀ x∈o.op.operands,zGO P f (env.val x) (ρ x)):qFV P f H w s ((execOp ρ o).run P w):=by
 have dry:jE P o env H=some s->qFV P f H w s ((execOp ρ o).run P w):=by
  intro hd;obtain⟨v,H',rfl⟩:=qGI hd;exact sZ hR hd hρ
 have one:∀ (op:Op),o.op=op->∀ x∈op.operands,zGO P f (env.val x) (ρ x):=fun op ho x hx=>hρ x (by rw[ho];exact hx)
 have zIO:∀ {v:Value} {S:Sem Value},execOp ρ o=(do pure (Next.value (<- S)))->(∃ v',S.run P w=.ok v' w∧zGO P f v v')->qFV P f H w (.val v H) ((execOp ρ o).run P w):=by
  rintro v S he ⟨v',h1,h2⟩;exact⟨.value v',v',w,f,by rw[he];simp[h1],.inl rfl,hR,.refl _ _ _,h2,.refl _ _⟩
 have ex:∀ (op:Op),o.op=op->execOp ρ o=execOp ρ { o with op:=op }:=fun op ho=>by rw[<-ho]
 unfold iop at h;split at h
 ·-- move
  rename_i x ho;have hone:=one _ ho;cases h;exact⟨.value _,_,w,f,by unfold execOp;rw[ho];rfl,.inl rfl,hR,.refl _ _ _,hone _ (by simp[Op.operands]),.refl _ _⟩
 ·rename_i x ho;have hone:=one _ ho;cases h;exact⟨.value _,_,w,f,by unfold execOp;rw[ho];rfl,.inl rfl,hR,.refl _ _ _,hone _ (by simp[Op.operands]),.refl _ _⟩
 ·-- pick
  rename_i c a b ho;have hone:=one _ ho
  have:∃ v H',s=.val v H':=by
   unfold qOO at h;split at h
   ·cases h;exact⟨_,_,rfl⟩
   ·cases h
  obtain⟨v,H',rfl⟩:=this;obtain⟨v',w',f',h1,h2,h3,h4,h5⟩:=q0P hR h (hone c (by simp[Op.operands])) (hone a (by simp[Op.operands])) (hone b (by simp[Op.operands]));refine⟨.value v',v',w',f',?_,.inl rfl,h2,h3,h4,h5⟩;unfold execOp;rw[ho];simp only[Sem.run_bind,Sem.run_pure] at h1 ⊢
  cases hb:(asBool (ρ c)).run P w with
  | ok t w2=>rw[hb] at h1;simp only[Result.andThen_ok] at h1 ⊢;cases h1;rfl
  | halt t w2=>rw[hb] at h1;cases h1
 ·-- alloc
  rename_i elem ho
  have:∃ v H',s=.val v H':=by
   unfold tN at h;split at h
   ·cases h;exact⟨_,_,rfl⟩
   ·cases h
  obtain⟨v,H',rfl⟩:=this;exact (qWW hR h).zHE (by unfold execOp;rw[ho])
 ·-- box
  rename_i elem x ho;have hone:=one _ ho
  have:∃ v H',s=.val v H':=by
   unfold q8A at h;split at h
   ·cases h;exact⟨_,_,rfl⟩
   ·cases h
  obtain⟨v,H',rfl⟩:=this;exact (q6H hR h (hone _ (by simp[Op.operands]))).zHE (by unfold execOp;rw[ho])
 ·-- build
  rename_i t parts ho;have hone:=one _ ho;obtain⟨v,rfl,h1⟩:=wV h
  have hp:zC4 P f (parts.toList.map fun p=>(p.1,env.val p.2)) (parts.toList.map fun p=>(p.1,ρ p.2)):=by
   refine⟨by simp,?_⟩;rw[zR9,zR9];exact qD.map _ _ _ fun p hp=>hone p.2 (by simp only[Op.operands];exact List.mem_toArray.2 (zTL hp))
  have:=(qUZ (w:=w) hR h1 hp).zHE (o:=o) (ρ:=ρ) (by unfold execOp;rw[ho];simp only;congr 3;apply zRH;simp);exact this
 ·-- buildSlice
  rename_i t len parts ho;have hone:=one _ ho
  have:∃ v H',s=.val v H':=by
   unfold kP at h
   repeat' split at h
   all_goals first | (cases h;exact⟨_,_,rfl⟩) | cases h
  obtain⟨v,H',rfl⟩:=this
  have hp:zC4 P f (parts.toList.map fun p=>(p.1,env.val p.2)) (parts.toList.map fun p=>(p.1,ρ p.2)):=by
   refine⟨by simp,?_⟩;rw[zR9,zR9];exact qD.map _ _ _ fun p hp=>hone p.2 (by simp only[Op.operands];exact List.mem_toArray.2 (zTL hp))
  exact (qDU (w:=w) hR h hp).zHE (o:=o) (ρ:=ρ) (by unfold execOp;rw[ho];simp only;congr 3;apply zRH;simp)
 ·-- load
  rename_i t a ho;have hone:=one _ ho;obtain⟨v,rfl,h1⟩:=wV h;exact zIO (by unfold execOp;rw[ho]) (qFQ hR h1 (hone _ (by simp[Op.operands])))
 ·-- store
  rename_i t a x ho;have hone:=one _ ho;obtain⟨v,H',rfl⟩:=qAT h;exact p9 h (by unfold execOp;rw[ho]) fun H2 h2=>qNE hR h2 (hone _ (by simp[Op.operands])) (hone _ (by simp[Op.operands]))
 ·-- nilCheck
  rename_i x ho;have hone:=one _ ho
  have:∃ v H',s=.val v H':=by
   unfold uJ at h
   repeat' split at h
   all_goals first | (cases h;exact⟨_,_,rfl⟩) | cases h
  obtain⟨v,H',rfl⟩:=this;obtain⟨v',h1,rfl,h2⟩:=qKQ hR h (hone _ (by simp[Op.operands])) (o:=o) (ρ:=ρ) ho rfl;exact⟨.value v',v',w,f,h1,.inl rfl,hR,.refl _ _ _,h2,.refl _ _⟩
 ·-- binOp
  rename_i op t x y u ho;obtain⟨v,H',rfl⟩:=qZT h;exact qZS hR ho h hρ
 ·-- convert
  rename_i src dst x ho;have hone:=one _ ho;unfold fQ at h;split at h
  ·rename_i a he;obtain⟨v,rfl,h1⟩:=wV h;have hx:=hone x (by simp[Op.operands]);rw[he] at hx;exact (qM6 (w:=w) hR h1 hx).zHE (by unfold execOp;rw[ho])
  ·exact dry h
 ·-- makeFunc
  rename_i fn first captured ho
  have hone:=one _ ho
  have:∃ v H',s=.val v H':=by
   unfold uD at h;split at h
   ·cases h;exact⟨_,_,rfl⟩
   ·cases h
  obtain⟨v,H',rfl⟩:=this;refine (qLM (w:=w) (a':=first.map ρ) (c':=captured.map ρ) hR h ?_ ?_).zHE (by unfold execOp;rw[ho])
  ·rw[zSO,zSO];exact qD.map _ _ _ fun x hx=>hone x (by simp only[Op.operands,zSF];exact .inl (zRC.2 hx))
  ·rw[zSO,zSO];exact qD.map _ _ _ fun x hx=>hone x (by simp only[Op.operands,zSF];exact .inr (zRC.2 hx))
 ·-- makeMap
  rename_i t r ho
  have:∃ v H',s=.val v H':=by
   unfold dG at h;split at h
   ·cases h;exact⟨_,_,rfl⟩
   ·cases h
  obtain⟨v,H',rfl⟩:=this;exact (qOZ (w:=w) hR h t ρ).zHE (by unfold execOp;rw[ho])
 ·-- makeSlice
  rename_i t l c ho;have hone:=one _ ho
  have:∃ v H',s=.val v H':=by
   unfold jY at h
   repeat' split at h
   all_goals first | (cases h;exact⟨_,_,rfl⟩) | cases h
  obtain⟨v,H',rfl⟩:=this;exact (qGJ (w:=w) hR h (hone _ (by simp[Op.operands])) (hone _ (by simp[Op.operands]))).zHE (by unfold execOp;rw[ho])
 ·-- slice
  rename_i t x lo hi mx ho;have hone:=one _ ho;unfold uT at h;split at h
  ·exact dry h
  ·obtain⟨v,rfl,h1⟩:=wV h
   exact zIO (by unfold execOp;rw[ho]) (qVF h1 (hone x (by simp[Op.operands]))
    (rW lo fun y hy=>hone y (by simp only[Op.operands,zSF];exact .inl (.inl (.inr hy))))
    (rW hi fun y hy=>hone y (by simp only[Op.operands,zSF];exact .inl (.inr hy)))
    (rW mx fun y hy=>hone y (by simp only[Op.operands,zSF];exact .inr hy)))
 ·-- fieldAddr
  rename_i st x fd ho;have hone:=one _ ho;obtain⟨v,rfl,h1⟩:=wV h;exact zIO (by unfold execOp;rw[ho]) (qN6 h1 (hone _ (by simp[Op.operands])))
 ·rename_i t x fd ho;have hone:=one _ ho;obtain⟨v,rfl,h1⟩:=wV h;exact zIO (by unfold execOp;rw[ho]) (qYZ h1 (hone _ (by simp[Op.operands])))
 ·rename_i t x ix ho;have hone:=one _ ho;obtain⟨v,rfl,h1⟩:=wV h;exact zIO (by unfold execOp;rw[ho]) (qOV h1 (hone _ (by simp[Op.operands])) (hone _ (by simp[Op.operands])))
 ·-- index
  rename_i t x ix ho;have hone:=one _ ho;unfold uQ at h;split at h
  ·exact dry h
  ·obtain⟨v,rfl,h1⟩:=wV h;exact zIO (by unfold execOp;rw[ho]) (qWI h1 (hone _ (by simp[Op.operands])) (hone _ (by simp[Op.operands])))
 ·-- lookup
  rename_i t x k ok ho;have hone:=one _ ho;obtain⟨v,rfl,h1⟩:=wV h;exact (qSR (w:=w) hR h1 (hone _ (by simp[Op.operands])) (hone _ (by simp[Op.operands]))).zHE (by unfold execOp;rw[ho])
 ·-- mapUpdate
  rename_i t m k x ho;have hone:=one _ ho;obtain⟨v,H',rfl⟩:=qAT h;exact p9 h (by unfold execOp;rw[ho]) fun H2 h2=>pJ hR h2 (hone _ (by simp[Op.operands])) (hone _ (by simp[Op.operands])) (hone _ (by simp[Op.operands]))
 ·rename_i t m k x ho;have hone:=one _ ho;obtain⟨v,H',rfl⟩:=qAT h;exact p9 h (by unfold execOp;rw[ho]) fun H2 h2=>pJ hR h2 (hone _ (by simp[Op.operands])) (hone _ (by simp[Op.operands])) (hone _ (by simp[Op.operands]))
 ·-- mapEntry
  rename_i t m k ho;have hone:=one _ ho
  have:∃ v H',s=.val v H':=by
   unfold wU at h
   repeat' split at h
   all_goals first | (cases h;exact⟨_,_,rfl⟩) | cases h
  obtain⟨v,H',rfl⟩:=this;exact (qJL (w:=w) hR h (hone _ (by simp[Op.operands])) (hone _ (by simp[Op.operands]))).zHE (by unfold execOp;rw[ho])
 ·rename_i t m st x ho;have hone:=one _ ho;obtain⟨v,H',rfl⟩:=qAT h;exact p9 h (by unfold execOp;rw[ho]) fun H2 h2=>qD2 hR h2 (hone _ (by simp[Op.operands])) (hone _ (by simp[Op.operands])) (hone _ (by simp[Op.operands]))
 ·-- range
  rename_i t x ho;have hone:=one _ ho
  have:∃ v H',s=.val v H':=by
   unfold qI9 at h
   repeat' split at h
   all_goals first | (cases h;exact⟨_,_,rfl⟩) | cases h
  obtain⟨v,H',rfl⟩:=this;exact (qW5 (w:=w) hR h (hone _ (by simp[Op.operands]))).zHE (by unfold execOp;rw[ho])
 ·-- next
  rename_i it isS ho;have hone:=one _ ho;have hx:=hone it (by simp[Op.operands]);have he:execOp ρ o=(do pure (Next.value (<- Instr.next (ρ it) isS o.type))):=by unfold execOp;rw[ho]
  cases isS with
  | true =>
    have:∃ v H',s=.val v H':=by
     unfold qKW at h;split at h
     ·split at h
      ·repeat' split at h
       all_goals first | (cases h;exact⟨_,_,rfl⟩) | cases h
      ·rename_i hb;cases hb
      ·cases h
     ·cases h
    obtain⟨v,H',rfl⟩:=this;exact (qYI (w:=w) hR h hx).zHE he
  | false =>
    have:=qUN (w:=w) (t:=o.type) hR h hx
    cases s with
    | val v H'=>exact Post.zHE this he
    | choice n k =>
      obtain⟨i,h1,h2⟩:=this;exact⟨i,h1,fun v H' hk=>sN.of_run he (h2 v H' hk)⟩
    | enter g a H'=>exact this.elim
    | round l a H'=>exact this.elim
 ·-- entry
  rename_i it ho;have hone:=one _ ho;obtain⟨v,rfl,h1⟩:=wV h;exact (qZC (w:=w) hR h1 (hone _ (by simp[Op.operands]))).zHE (by unfold execOp;rw[ho])
 ·-- extract
  rename_i t ix ho;have hone:=one _ ho
  have:∃ v H',s=.val v H':=by
   unfold fG at h;split at h
   ·unfold uF at h;split at h
    ·rw[cond_eq_ite] at h;split at h
     ·cases h;exact⟨_,_,rfl⟩
     ·cases h
    ·cases h
   ·cases h
  obtain⟨v,H',rfl⟩:=this;exact (qNW (w:=w) hR h (hone _ (by simp[Op.operands]))).zHE (by unfold execOp;rw[ho])
 ·-- call
  rename_i c ho;unfold yJ at h;split at h
  ·rename_i r hr;cases h;exact q14 hR ho hr hρ
  ·exact dry h
 ·exact dry h
 ·cases h
end Go.Idl
