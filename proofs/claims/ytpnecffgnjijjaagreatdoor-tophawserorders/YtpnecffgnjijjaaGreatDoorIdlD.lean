/- Operations of the ideal interpreter against the model's own, second part. Conditions: none. -/
import Derived.Test.YtpnecffgnjijjaaGreatDoorIdlC
import Derived.Orders
import Derived.KernelRfl
set_option linter.all false
namespace Go.Idl
variable {P:Program}
variable {H H':IH}{env:Env}{f:Inj}{o:Oper}{v:Value}{w:World}
theorem uH {α:Type}:∀ (s:Sem α) {x:α},yB P s=some x->∀ w,s.run P w=.ok x w
 | .pure a,x,h,w=>by
   have:some a=some x:=h;cases this;rfl
 | .load _ _ _,x,h,w=>by have h':none=some x:=h;cases h'
 | .store _ _ _ _,x,h,w=>by have h':none=some x:=h;cases h'
 | .new _ _,x,h,w=>by have h':none=some x:=h;cases h'
 | .shape _ _,x,h,w=>by have h':none=some x:=h;cases h'
 | .freeze _ _ _,x,h,w=>by have h':none=some x:=h;cases h'
 | .frozen _ _,x,h,w=>by have h':none=some x:=h;cases h'
 | .getObj _ _,x,h,w=>by have h':none=some x:=h;cases h'
 | .setObj _ _ _,x,h,w=>by have h':none=some x:=h;cases h'
 | .choose q k,x,h,w=>by
   have h':cond q.forced (yB P (k 0)) none=some x:=h
   cases hq:q.forced with
   | false=>rw[hq] at h';cases h'
   | true =>
     rw[hq] at h';have:=uH (k 0) h' w;unfold Sem.run;rw[if_pos hq];exact this
 | .sys _ _,x,h,w=>by have h':none=some x:=h;cases h'
 | .program k,x,h,w=>uH (k P) h w
 | .mark _ k,x,h,w=>uH k h w
 | .halt _,x,h,w=>by have h':none=some x:=h;cases h'
def pU (P:Program)(f:Inj)(H:IH)(w:World)(v:Value)(H':IH)(r:Result Next):Prop :=
 ∃ nx v' w' f',r=.ok nx w'∧(nx=.value v'∨(nx=.skip∧v'=undef))∧Rel P f' H' w'∧Grow f H w f' H' w'∧zFB P f' v v'∧Keep f H H'
theorem Post.next {s:Sem Value}(h:Post P f H w v H' (s.run P w)) :
 pU P f H w v H' ((do pure (Next.value (<- s)):Sem Next).run P w):=by
 obtain⟨v',w',f',h1,h2,h3,h4,h5⟩:=h;exact⟨.value v',v',w',f',by simp[h1],.inl rfl,h2,h3,h4,h5⟩
theorem qYO (h:qJQ v=true)(f:Inj):zFB P f v v:=by
 cases v <;> first
  | exact .zF6 (.zFR h)
  | exact .base _ h
theorem qFJ {s:zFH}(h:kG P o env H=some s) :
 ∃ v,s=.val v H∧zQ (kP env.val o.op.operands.toList)=true∧yB P (execOp env.val o)=some (.value v)∧∀ f,zFB P f v v:=by
 unfold kG at h;split at h
 ·rename_i hp;unfold qF1 at h;split at h
  ·rename_i v hs;unfold qAX at h
   cases hd:qJQ v with
   | false=>rw[hd] at h;cases h
   | true =>
     rw[hd] at h;have h':some (zFH.val v H)=some s:=h;cases h';exact⟨v,rfl,hp,hs,qYO hd⟩
  ·cases h
 ·cases h
theorem pF (h:yB P (execOp env.val o)=some (.value v)):∀ cs b,o.op≠.select cs b:=by
 intro cs b ho;unfold execOp at h;rw[ho] at h;have:=uH _ h default;simp only[Sem.run_bind] at this
 cases hm:(Array.mapM (fun s:SelectCase=>do pure { chan:=env.val s.chan,send:=s.send.map env.val,zero:=<- zeroValue s.elem:CommCase }) cs).run P default with
 | ok a w=>rw[hm] at this;simp at this
 | halt a w=>rw[hm] at this;simp[Result.andThen] at this
theorem rH {o:Oper}{ρ:Operand->Value}(hR:Rel P f H w)(h:kG P o env H=some (.val v H'))
 (hρ:∀ x∈o.op.operands,zFB P f (env.val x) (ρ x)):pU P f H w v H' ((execOp ρ o).run P w):=by
 obtain⟨v2,he,hp,hs,hv⟩:=qFJ h;cases he
 have heq:execOp ρ o=execOp env.val o:=execOp_congr o (pF hs) fun x hx=>by
  have hx':x∈o.op.operands.toList:=by simpa using hx
  have:=xN.1 hp (env.val x) (by rw[xC];exact zQL hx');exact (hρ x hx).plain this
 rw[heq,uH _ hs w];exact⟨.value v,v,w,f,rfl,.inl rfl,hR,.refl _ _ _,hv f,.refl _ _⟩
end Go.Idl
namespace Go.Idl
variable {P:Program}
variable {a:Option Addr}{b:Bool}{c l:Nat}{e t:TypeId}{f:Inj}{k:IntKind}{op:BinOp}{v v' x x' y y':Value}
theorem qRN {a b:Int}(h:dS op k a b=some v)(w:World):(binOp op t (.int k a) (.int k b)).run P w=.ok v w:=by
 unfold dS at h
 cases op <;> simp only[zM7,reduceCtorEq] at h <;>
  first
  | (subst h;simp[binOp,Op.intArith,Op.intCmp])
  | (split at h
     ·cases h
     ·rename_i h0;cases h;simp[binOp,Op.intDiv,h0])
theorem qAM {x y:Operand}{k':IntKind}{a b:Int}(w:World):(eqGuard op t x y (.int k a) (.int k' b)).run P w=.ok () w:=by
 unfold eqGuard;cases op <;> simp
theorem qXK {a b:Int}(h:dS op k a b=some v):yF v=true:=by
 unfold dS at h
 cases op <;> simp only[zM7,reduceCtorEq] at h <;>
  first
  | (subst h;rfl)
  | (split at h
     ·cases h
     ·cases h;rfl)
def qYY:Value->Bool
 | .pointer _ | .slice _ _ _ | .map _ | .nilFunc | .func _ _ _=>true
 | _=>false
theorem aG {x y:Operand}{a b:Value}(h:qYY a=true)(w:World):(eqGuard op t x y a b).run P w=.ok () w:=by
 unfold eqGuard;cases op <;> cases a <;> simp[qYY] at h <;> simp
theorem binOp_eql {a b:Value}(h:qYY a=true):binOp .eql t a b=(do pure (.bool (<- Op.equal t a b))):=by
 cases a <;> simp[qYY] at h <;> cases b <;> rfl
theorem binOp_neq {a b:Value}(h:qYY a=true):binOp .neq t a b=(do pure (.bool (!(<- Op.equal t a b)))):=by
 cases a <;> simp[qYY] at h <;> cases b <;> rfl
theorem zFB.zHZ (h:zFB P f (.pointer a) v'):∃ a',v'=.pointer a'∧a'.isNone=a.isNone:=by
 cases h with
 | base _ hp=>exact⟨_,rfl,rfl⟩
 | ptr h=>exact⟨_,rfl,rfl⟩
theorem zFB.zIH (h:zFB P f (.slice a l c) v'):∃ a' c',v'=.slice a' l c'∧a'.isNone=a.isNone:=by
 cases h with
 | base _ hp=>exact⟨_,_,rfl,rfl⟩
 | sl h=>exact⟨_,_,rfl,rfl⟩
 | room h _ _=>exact⟨_,_,rfl,rfl⟩
 | zF3 h _ _=>exact⟨_,_,rfl,rfl⟩
 | gh h _=>exact⟨_,_,rfl,rfl⟩
theorem zFB.zH0 {a:Option Nat}(h:zFB P f (.map a) v'):∃ a',v'=.map a'∧a'.isNone=a.isNone:=by
 cases h with
 | base _ hp=>exact⟨_,rfl,rfl⟩
 | map h=>exact⟨_,rfl,rfl⟩
theorem q2E (d:Nat)(hu:P.underlying t=some (.pointer e))(a c:Option Addr)(h:a=none∨c=none)(w:World) :
 (Op.equalIn (d+1) t (.pointer a) (.pointer c)).run P w=.ok (a.isNone&&c.isNone) w:=by
 cases a <;> cases c <;> simp at h <;> simp[Op.equalIn,run_underlying hu]
theorem qRV (d:Nat)(hu:P.underlying t=some (.slice e))(a c:Option Addr)(l1 l2 c1 c2:Nat)(h:a=none∨c=none)(w:World) :
 (Op.equalIn (d+1) t (.slice a l1 c1) (.slice c l2 c2)).run P w=.ok (a.isNone&&c.isNone) w:=by
 cases a <;> cases c <;> simp at h <;> simp[Op.equalIn,run_underlying hu]
theorem q2C {k:TypeId}(d:Nat)(hu:P.underlying t=some (.map k e))(a c:Option Nat)(h:a=none∨c=none)(w:World) :
 (Op.equalIn (d+1) t (.map a) (.map c)).run P w=.ok (a.isNone&&c.isNone) w:=by
 cases a <;> cases c <;> simp at h <;> simp[Op.equalIn,run_underlying hu]
def mF:Value->Bool
 | .nilFunc | .func _ _ _=>true
 | _=>false
def jV:Value->Bool
 | .nilFunc=>true
 | _=>false
theorem qKI (d:Nat){p r:Array TypeId}{va:Bool}(hu:P.underlying t=some (.func p r va))(hx:mF x=true)(hy:mF y=true)
 (h:jV x=true∨jV y=true) (w:World):(Op.equalIn (d+1) t x y).run P w=.ok (jV x&&jV y) w:=by
 cases x <;> simp[mF] at hx <;> cases y <;> simp[mF] at hy <;> simp[jV] at h <;> simp[Op.equalIn,run_underlying hu,jV]
theorem zFB.fnV (hx:zFB P f x x')(h:mF x=true):mF x'=true∧jV x'=jV x:=by
 cases hx with
 | any _=>simp[unk,mF] at h
 | undef=>simp[Go.undef,mF] at h
 | base _ _=>exact⟨h,rfl⟩
 | func _ _ _ _=>exact⟨rfl,rfl⟩
 | yield _=>exact⟨rfl,rfl⟩
 | _=>simp[mF] at h
theorem q2W (h:uG (.pointer a) y=some b):∃ c,y=.pointer c∧(a=none∨c=none)∧b=(a.isNone&&c.isNone):=by
 cases y <;> cases a <;> simp[uG] at h
 ·subst h;exact⟨_,rfl,.inl rfl,by simp⟩
 ·rename_i c q;cases c <;> simp at h;subst h;exact⟨_,rfl,.inr rfl,by simp⟩
theorem qR7 (h:uG (.slice a l c) y=some b):∃ a2 l2 c2,y=.slice a2 l2 c2∧(a=none∨a2=none)∧b=(a.isNone&&a2.isNone):=by
 cases y <;> cases a <;> simp[uG] at h
 ·subst h;exact⟨_,_,_,rfl,.inl rfl,by simp⟩
 ·rename_i c _ _ q;cases c <;> simp at h;subst h;exact⟨_,_,_,rfl,.inr rfl,by simp⟩
theorem qZ1 {a:Option Nat}(h:uG (.map a) y=some b):∃ c,y=.map c∧(a=none∨c=none)∧b=(a.isNone&&c.isNone):=by
 cases y <;> cases a <;> simp[uG] at h
 ·subst h;exact⟨_,rfl,.inl rfl,by simp⟩
 ·rename_i c q;cases c <;> simp at h;subst h;exact⟨_,rfl,.inr rfl,by simp⟩
theorem qUW (h:uG x y=some b)(hx:mF x=true):mF y=true∧(jV x=true∨jV y=true)∧b=(jV x&&jV y):=by
 cases x <;> simp[mF] at hx <;> cases y <;> simp[uG] at h <;> subst h <;> simp[mF,jV]
theorem dD {α:Type}{a a':Option α}(h:a'.isNone=a.isNone)(hn:a=none):a'=none:=by subst hn;simpa using h
theorem qYM (h:uG x y=some b)(hk:uU P t x=true)(hx:zFB P f x x')(hy:zFB P f y y')(w:World) :
 qYY x'=true∧(Op.equal t x' y').run P w=.ok b w:=by
 unfold uU at hk;show qYY x'=true∧(Op.equalIn (9999+1) t x' y').run P w=.ok b w;generalize 9999=d;split at hk
 ·rename_i e a hu;obtain⟨c,rfl,hn,rfl⟩:=q2W h;obtain⟨a',rfl,ha⟩:=hx.zHZ;obtain⟨c',rfl,hc⟩:=hy.zHZ;rw[<-ha,<-hc];exact⟨rfl,q2E d hu _ _ (hn.imp (dD ha) (dD hc)) w⟩
 ·rename_i e a l1 c1 hu;obtain⟨c,l2,c2,rfl,hn,rfl⟩:=qR7 h;obtain⟨a',q1,rfl,ha⟩:=hx.zIH;obtain⟨c',q2,rfl,hc⟩:=hy.zIH;rw[<-ha,<-hc];exact⟨rfl,qRV d hu _ _ _ _ _ _ (hn.imp (dD ha) (dD hc)) w⟩
 ·rename_i k e a hu;obtain⟨c,rfl,hn,rfl⟩:=qZ1 h;obtain⟨a',rfl,ha⟩:=hx.zH0;obtain⟨c',rfl,hc⟩:=hy.zH0;rw[<-ha,<-hc];exact⟨rfl,q2C d hu _ _ (hn.imp (dD ha) (dD hc)) w⟩
 ·rename_i p r va hu;obtain⟨h1,h2,rfl⟩:=qUW h rfl;obtain⟨g1,g2⟩:=hx.fnV rfl;obtain⟨k1,k2⟩:=hy.fnV h1;rw[<-g2,<-k2];refine⟨?_,qKI d hu g1 k1 (by rw[g2,k2];exact h2) w⟩;cases x' <;> simp[mF] at g1 <;> rfl
 ·rename_i p r va fn a1 a2 hu;obtain⟨h1,h2,rfl⟩:=qUW h rfl;obtain⟨g1,g2⟩:=hx.fnV rfl;obtain⟨k1,k2⟩:=hy.fnV h1;rw[<-g2,<-k2];refine⟨?_,qKI d hu g1 k1 (by rw[g2,k2];exact h2) w⟩;cases x' <;> simp[mF] at g1 <;> rfl
 ·cases hk
theorem qIK {n:Nat}(d:Nat)(hu:P.underlying t=some (.pointer e))(hs:szT P e=some n)(hn:n≠0)(a b:Addr)(h:a.block=b.block)(w:World) :
 (Op.equalIn (d+1) t (.pointer (some a)) (.pointer (some b))).run P w=.ok (a==b) w:=by
 simp[Op.equalIn,run_underlying hu,zV hs,hn,sameAddr,h]
theorem qS0 (h:qVG P t x y=some b)(hx:zFB P f x x')(hy:zFB P f y y')(w:World) :
 qYY x'=true∧(Op.equal t x' y').run P w=.ok b w:=by
 unfold qVG at h;split at h
 ·rename_i a c;split at h
  ·rename_i el hu;split at h
   ·rename_i n hs;split at h
    ·rename_i hc;simp only[zMY,bne_iff_ne,ne_eq,beq_iff_eq,Option.isNone_iff_eq_none] at hc;obtain⟨⟨⟨hn,hb⟩,h1⟩,h2⟩:=hc;obtain⟨ab,ao,as⟩:=a;obtain⟨cb,co,cs⟩:=c;simp only at hb h1 h2;subst hb h1 h2;obtain⟨e1,he1,rfl⟩:=hx.zFX;obtain⟨e2,he2,rfl⟩:=hy.zFX;rw[he1] at he2;cases he2;refine⟨rfl,?_⟩;have:=qIK (P:=P) 9999 hu hs hn ⟨e1.r,ao+e1.shift,none⟩ ⟨e1.r,co+e1.shift,none⟩ rfl w;rw[show Op.equal t (Value.pointer (some ⟨e1.r,ao+e1.shift,none⟩)) (Value.pointer (some ⟨e1.r,co+e1.shift,none⟩))=Op.equalIn (9999+1) t (.pointer (some ⟨e1.r,ao+e1.shift,none⟩)) (.pointer (some ⟨e1.r,co+e1.shift,none⟩)) from rfl,this];simp only[zM7] at h;subst h
     congr 1
     rw[Bool.eq_iff_iff];simp
    ·cases h
   ·cases h
  ·cases h
 ·cases h
theorem qEM (h:eD P t x y=some b)(hx:zFB P f x x')(hy:zFB P f y y')(w:World) :
 qYY x'=true∧(Op.equal t x' y').run P w=.ok b w:=by
 unfold eD at h;split at h
 ·rename_i b' hb
  cases hk:uU P t x with
  | false=>rw[hk] at h;cases h
  | true=>rw[hk] at h;cases h;exact qYM hb hk hx hy w
 ·exact qS0 h hx hy w
theorem qXC {H H':IH}{w:World}{o:Oper}{env:Env}{ρ:Operand->Value}{x y:Operand}{u:TypeId}(hR:Rel P f H w)(ho:o.op=.binOp op t x y u)
 (h:yS P o op t (env.val x) (env.val y) env H=some (.val v H')) (hρ:∀ x∈o.op.operands,zFB P f (env.val x) (ρ x)):pU P f H w v H' ((execOp ρ o).run P w):=by
 have hx:zFB P f (env.val x) (ρ x):=hρ x (by rw[ho];simp[Op.operands]);have hy:zFB P f (env.val y) (ρ y):=hρ y (by rw[ho];simp[Op.operands]);have zH1:execOp ρ o=(do pure (.value (<- (do eqGuard op t x y (ρ x) (ρ y);binOp op t (ρ x) (ρ y))))):=by unfold execOp;rw[ho]
 have fin:∀ (v':Value),(eqGuard op t x y (ρ x) (ρ y)).run P w=.ok () w->(binOp op t (ρ x) (ρ y)).run P w=.ok v' w->zFB P f v v'->H'=H->pU P f H w v H' ((execOp ρ o).run P w):=by
  intro v' h1 h2 h3 h4;subst h4;rw[zH1];exact⟨.value v',v',w,f,by simp[h1,h2],.inl rfl,hR,.refl _ _ _,h3,.refl _ _⟩
 have nil:zFP P o op t (env.val x) (env.val y) env H=some (.val v H')->pU P f H w v H' ((execOp ρ o).run P w):=by
  intro h;unfold zFP at h;split at h
  ·split at h
   ·rename_i b hb;obtain⟨rfl,rfl⟩:=val_inj h;obtain⟨h1,h2⟩:=qEM hb hx hy w;exact fin _ (aG h1 w) (by rw[binOp_eql h1];simp[h2]) (.base _ rfl) rfl
   ·exact rH hR h hρ
  ·split at h
   ·rename_i b hb;obtain⟨rfl,rfl⟩:=val_inj h;obtain⟨h1,h2⟩:=qEM hb hx hy w;exact fin _ (aG h1 w) (by rw[binOp_neq h1];simp[h2]) (.base _ rfl) rfl
   ·exact rH hR h hρ
  ·exact rH hR h hρ
 unfold yS at h;split at h
 ·rename_i k a hxa;split at h
  ·rename_i k' b hyb
   have ex:env.val x=.int k a:=by
    cases hv:env.val x <;> rw[hv] at hxa <;> simp[asI] at hxa;rw[hxa.1,hxa.2]
   have ey:env.val y=.int k' b:=by
    cases hv:env.val y <;> rw[hv] at hyb <;> simp[asI] at hyb;rw[hyb.1,hyb.2]
   unfold zF0 at h
   cases hkk:Nat.beq (q3H k) (q3H k') with
   | false=>rw[hkk] at h;exact rH hR h hρ
   | true =>
     rw[hkk] at h;have:=qZC hkk;subst this
     cases hib:dS op k a b with
     | none=>rw[hib] at h;exact rH hR h hρ
     | some v2 =>
       rw[hib] at h;obtain⟨rfl,rfl⟩:=val_inj h;have hx':ρ x=.int k a:=by rw[ex] at hx;exact hx.int
       have hy':ρ y=.int k b:=by rw[ey] at hy;exact hy.int
       exact fin _ (by rw[hx',hy'];exact qAM w) (by rw[hx',hy'];exact qRN hib w) (.base _ (qXK hib)) rfl
  ·exact nil h
 ·exact nil h
end Go.Idl
namespace Go.Idl
variable {P:Program}
variable {H H':IH}{as as':List Value}{c l:Nat}{f:Inj}{t:TypeId}{v x x':Value}{w:World}
theorem qEA {r o:Nat}{c:Array Value}{el:TypeId}{fz:Nat×Nat}(h:w.heap[r]?=some (.cells c el fz)):(Conv.seenAt ⟨r,o,none⟩).run P w=.ok ⟨r,o,none⟩ w:=by
 simp[Conv.seenAt,viewAt,World.shape?,h]
theorem qMA {src dst:TypeId}(hR:Rel P f H w)(h:qFF P src dst x H=some v)(hx:zFB P f x x') :
 Post P f H w v H ((convert src dst x').run P w):=by
 unfold qFF at h;split at h
 ·rename_i b o;obtain⟨e,he,rfl⟩:=hx.zFX;split at h
  ·rename_i c el fz hg;obtain⟨c',el',fz',hr,hN,hsz,hcv,hfr,hex⟩:=hR.obj b e _ he hg;split at h
   ·rename_i t hs hd;split at h
    ·rename_i n hn;split at h
     ·rename_i hc;simp only[zMY,bne_iff_ne,ne_eq,decide_eq_true_eq] at hc;cases h;refine .same hR (v':=.pointer (some ⟨e.r,o+e.shift,none⟩)) ?_ (.ptr he);have hlt:¬ (c'.size<=o+e.shift):=by omega
      simp[convert,run_underlying hs,run_underlying hd,Conv.unsafePointer,qEA hr,cellsIn,World.shape?,hr,zV hn,hc.1,hlt]
     ·cases h
    ·cases h
   ·rename_i u hs hd;split at h
    ·rename_i n hn;split at h
     ·rename_i hc;simp only[zMY,bne_iff_ne,ne_eq,beq_iff_eq] at hc;obtain⟨⟨hn0,hfz⟩,hl⟩:=hc;cases h;subst hfz;obtain⟨hsh,hcs⟩:=hex rfl;obtain⟨_,hel,_⟩:=hfr rfl;subst hel;refine .same hR (v':=.pointer (some ⟨e.r,o+e.shift,none⟩)) ?_ (.ptr he);rw[hsh,zPL];rw[hcs] at hl;simp[convert,run_underlying hs,run_underlying hd,Conv.unsafePointer,qEA hr,zV hn,hn0,variablesAt,World.shape?,hr,hl]
     ·cases h
    ·cases h
   ·cases h
  ·cases h
 ·cases h
theorem run_loadBytes (r:Nat):∀ (l:List Value) (bs:List UInt8) (o:Nat) (acc:ByteArray) (w:World),zP l=some bs ->
 (∀ j v,l[j]?=some v->w.cell? ⟨r,o+j,none⟩=some v)->(loadBytes ⟨r,o,none⟩ acc l.length).run P w=.ok ⟨acc.data++bs.toArray⟩ w
 | [],bs,o,acc,w,h,_=>by
   simp[zP] at h;subst h;simp[loadBytes]
 | v::l,bs,o,acc,w,h,hc=>by
   cases v <;> first | (simp[zP] at h;done) | skip
   rename_i k n
   cases k <;> first | (simp[zP] at h;done) | skip
   simp only[zP,zM8] at h;obtain⟨bs',h1,rfl⟩:=h
   have h0:(load ⟨r,o,none⟩).run P w=.ok (.int .u8 n) w:=by
    have:=hc 0 _ rfl;simp only[zPL] at this;simp[load,Sem.run,this]
   have:=run_loadBytes r l bs' (o+1) (acc.push (UInt8.ofNat n.toNat)) w h1 (fun j v hj=>by
    have:=hc (j+1) v (by simpa using hj)
    rwa [show o+(j+1)=o+1+j by omega] at this)
   simp only[zNZ,loadBytes,Sem.run_bind,h0,Result.andThen_ok];rw[yX];show (loadBytes ⟨r,o+1,none⟩ (acc.push (n.toNat.toUInt8)) l.length).run P w=_;rw[show n.toNat.toUInt8=UInt8.ofNat n.toNat from rfl,this]
   congr 1
   show (⟨(acc.push _).data++_⟩:ByteArray)=_
   congr 1
   show (acc.data.push _)++_=_;apply zOJ;simp
theorem sO {at_:Array TypeId}(hR:Rel P f H w)(h:xM P at_ as H=some (.val v H'))(ha:qE P f as as') :
 Post P f H w v H' ((Builtin.unsafeString_ at_ t as'.toArray).run P w):=by
 have zII:IntKind.i64.max=9223372036854775807:=rfl;unfold xM at h;split at h
 ·rename_i k n hpt;obtain⟨p',r1,rfl,hp,hr1⟩:=ha.zFD;obtain⟨n',r2,rfl,hn,hr2⟩:=hr1.zFD;have:=hr2.zFF;subst this;have:=hn.int;subst this;have:=hp.plain rfl;subst this;split at h
  ·rename_i hc;obtain⟨rfl,rfl⟩:=val_inj h;have hn0:n=0:=by simpa using (show n=0∧_ by simpa using hc).1
   subst hn0;refine .same hR (v':=.string .empty) ?_ (.base _ rfl);show Sem.run P (Bind.bind (asInt (.int k 0)) _) w=_;simp[asInt,asIntOf,hpt,zII]
  ·cases h
 ·rename_i b o k n hpt;obtain⟨p',r1,rfl,hp,hr1⟩:=ha.zFD;obtain⟨n',r2,rfl,hn,hr2⟩:=hr1.zFD;have:=hr2.zFF;subst this;have:=hn.int;subst this;obtain⟨e,he,rfl⟩:=hp.zFX;split at h
  ·rename_i u hu;split at h
   ·rename_i hn0;obtain⟨rfl,rfl⟩:=val_inj h;subst hn0;refine .same hR (v':=.string .empty) ?_ (.base _ rfl);show Sem.run P (Bind.bind (asInt (.int k 0)) _) w=_;simp[asInt,asIntOf,hpt,zII]
   ·rename_i hn0;split at h
    ·rename_i hnb;simp only[zMY,decide_eq_true_eq] at hnb;split at h
     ·rename_i c el fz hg;split at h
      ·rename_i hc;simp only[zMY,beq_iff_eq,decide_eq_true_eq] at hc;obtain⟨⟨⟨hfz,hcell⟩,zJC⟩,hbase⟩:=hc;split at h
       ·rename_i bs hbs;obtain⟨rfl,rfl⟩:=val_inj h;simp only[zOZ] at hbs;obtain⟨l,hl,hbytes⟩:=hbs;obtain⟨c',el',fz',hr,hN,hsz,hcv,hfr,hex⟩:=hR.obj b e _ he hg;obtain⟨hro,hel,hnf⟩:=hfr hfz;subst hel;obtain⟨l',q1,q2,q3⟩:=aX hR he hl;obtain⟨c2,el2,fz2,hg2,hle,_⟩:=nV hl;rw[hg] at hg2;cases hg2
        -- bytes are plain
        have hpl:∀ (l:List Value) bs,zP l=some bs->zQ l=true:=by
         intro l
         induction l with
         | nil=>intro _ _;rfl
         | cons v l ih =>
           intro bs hb
           cases v <;> first | (simp[zP] at hb;done) | skip
           rename_i k2 n2
           cases k2 <;> first | (simp[zP] at hb;done) | skip
           simp only[zP,zM8] at hb;obtain⟨bs',h1,_⟩:=hb;rw[eY,ih bs' h1];rfl
        have hll:l'=l:=q1.plain (hpl l bs hbytes);subst hll;have hb0:=run_loadBytes (P:=P) e.r l' bs (o+e.shift) .empty w hbytes (fun j v hj=>by have:=q3 j v hj;rwa [yX] at this);rw[q2] at hb0
        have hlies:liesAt P P.depth el' (c'.size / P.cellsOf el') (o+e.shift) u n.toNat=true:=by
         rw[hcell]
         cases hd:P.depth with
         | zero=>rw[hd] at zJC;simp[sameLayout] at zJC
         | succ d =>
           unfold liesAt
           have:rowAt P (sameLayout P P.depth · u) P.depth el' (c'.size / 1) (o+e.shift) n.toNat=true:=by
            rw[hd];unfold rowAt;rw[hcell];rw[hd] at zJC;have:o+e.shift+n.toNat<=c'.size:=by omega
            simp[zJC,Nat.mod_one,this]
           rw[zN1];left;exact this
        have hnn:n.toNat≠0:=by omega
        have hlt:e.r < w.heap.size:=hR.bound b e he
        have hmod:∃ fz2,∀ x:Nat,(w.freeze ⟨e.r,o+e.shift,none⟩ n.toNat).heap[x]?=if x=e.r then some (.cells c' el' fz2) else w.heap[x]?:=by
         obtain⟨lo,hi⟩:=fz';refine⟨if lo==hi then (o+e.shift,o+e.shift+n.toNat) else (min lo (o+e.shift),max hi (o+e.shift+n.toNat)),fun x=>?_⟩;simp only[World.freeze,hnn,if_false];rw[Array.getElem?_modify];by_cases hx:x=e.r
         ·subst hx;simp[hr]
         ·rw[if_neg (Ne.symm hx),if_neg hx]
        obtain⟨fz2,hmod⟩:=hmod
        obtain⟨g1,g2,g3⟩:=Rel.put (o1:=.cells c el' (0,1)) (o1':=.cells c' el' fz2) (w':=w.freeze ⟨e.r,o+e.shift,none⟩ n.toNat) hR he hg rfl hro
         ⟨c',el',fz2,rfl,hN,hsz,hcv,fun hx=>by simp[aZ] at hx,fun hx=>by simp at hx⟩ hmod (by simp[World.freeze,hnn]) (by unfold World.freeze;split <;> exact⟨rfl,rfl,rfl⟩)
        refine⟨_,_,f,?_,g1,g2,.base _ rfl,g3⟩;have hmax:¬ (9223372036854775807 < n):=by omega
        have hneg:¬ (n < 0):=by omega
        show Sem.run P (Bind.bind (asInt (.int k n)) _) w=_;simp[asInt,asIntOf,hpt,hneg,zII,hmax,hn0,elemOf,run_underlying hu,variablesAt,World.shape?,hr,hlies,hb0,freeze,Sem.run]
       ·cases h
      ·cases h
     ·cases h
    ·cases h
  ·cases h
 ·cases h
theorem qFT {a:Addr}(ts:Array TypeId)(t:TypeId)(hR:Rel P f H w)(h:x=.slice (some a) l c)(hc:c≠0)(hx:zFB P f x x') :
 Post P f H w (.pointer (some ⟨a.block,a.off,none⟩)) H ((Builtin.unsafeSliceData_ ts t #[x']).run P w):=by
 subst h
 cases hx with
 | base _ hp=>have hp':false=true:=hp;cases hp'
 | sl hb =>
   refine .same hR (v':=.pointer (some ⟨_,_,none⟩)) ?_ (.ptr hb);show Sem.run P (ite (c≠0) (pure (Value.pointer (some _)):Sem Value) _) w=_;rw[if_pos hc];simp
 | @room _ _ _ _ _ cap' e hb hcc hN =>
   refine .same hR (v':=.pointer (some ⟨_,_,none⟩)) ?_ (.ptr hb);show Sem.run P (ite (cap'≠0) (pure (Value.pointer (some _)):Sem Value) _) w=_;rw[if_pos (by omega)];simp
 | zF3 _ _ _=>exact absurd rfl hc
 | gh _ _=>exact absurd rfl hc
theorem qK2 (ts:Array TypeId)(t:TypeId)(hR:Rel P f H w)(hx:zFB P f (.slice none l c) x') :
 Post P f H w (.pointer none) H ((Builtin.unsafeSliceData_ ts t #[x']).run P w):=by
 have:=hx.zGL;subst this;exact .same hR (v':=.pointer none) (by show Sem.run P (pure (Value.pointer none)) w=_;simp) (.base _ rfl)
theorem zFB.zGV {r:Nat}{v':Value}(h:zFB P f (.map (some r)) v'):∃ e,f r=some e∧v'=.map (some e.r):=by
 cases h with
 | base _ hp=>have hp':false=true:=hp;cases hp'
 | map h=>exact⟨_,h,rfl⟩
theorem jD {r:Nat}{o:Obj}(h:w.heap[r]?=some o)(hn:∀ c e z,o≠.cells c e z):(getObj r).run P w=.ok o w:=by
 unfold getObj Sem.run;rw[h]
 cases o <;> first | (exact absurd rfl (hn _ _ _)) | rfl
theorem q69 {ts:Array TypeId}(hR:Rel P f H w)(h:oJ P ts as H=some (.val v H'))(ha:qE P f as as') :
 Post P f H w v H' ((Builtin.len_ ts t as'.toArray).run P w):=by
 unfold oJ at h;split at h
 ·rename_i el a n c hb;obtain⟨rfl,rfl⟩:=val_inj h;obtain⟨x',r,rfl,hx,hr⟩:=ha.zFD;have:=hr.zFF;subst this;obtain⟨a',c',rfl⟩:=hx.zGI;obtain⟨t0,ht,hu⟩:=zOZ.1 hb;exact .same hR (v':=goInt n) (by simp[Builtin.len_,ht,run_underlying hu]) (.base _ rfl)
 ·rename_i k el r hb;split at h
  ·rename_i es clk hg;obtain⟨rfl,rfl⟩:=val_inj h;obtain⟨x',q,rfl,hx,hr⟩:=ha.zFD;have:=hr.zFF;subst this;obtain⟨e,he,rfl⟩:=hx.zGV;obtain⟨_,es',h1,h2,_⟩:=hR.obj r e _ he hg;obtain⟨t0,ht,hu⟩:=zOZ.1 hb;have hob:=jD (P:=P) h1 (fun _ _ _ hx=>by cases hx);exact .same hR (v':=goInt es.size) (by simp[Builtin.len_,ht,run_underlying hu,hob,h2]) (.base _ rfl)
  ·cases h
 ·rename_i n el x hb;obtain⟨rfl,rfl⟩:=val_inj h;obtain⟨x',q,rfl,hx,hr⟩:=ha.zFD;have:=hr.zFF;subst this;obtain⟨t0,ht,hu⟩:=zOZ.1 hb;exact .same hR (v':=goInt n) (by simp[Builtin.len_,ht,run_underlying hu]) (.base _ rfl)
 ·cases h
end Go.Idl
namespace Go.Idl
variable {P:Program}
variable {H:IH}{clk:Nat}{es es':Array MapEntry}{f:Inj}{k k' x x':Value}{kt t:TypeId}{l l' m:List MapEntry}{v:MapEntry}{w:World}
theorem xY {α β:Type}(g:α->Sem β):∀ (s:Sem α),yB P (s.bind g)=(yB P s).bind fun a=>yB P (g a)
 | .pure a=>rfl
 | .load _ _ _=>rfl
 | .store _ _ _ _=>rfl
 | .new _ _=>rfl
 | .shape _ _=>rfl
 | .freeze _ _ _=>rfl
 | .frozen _ _=>rfl
 | .getObj _ _=>rfl
 | .setObj _ _ _=>rfl
 | .choose q k=>by
   show cond q.forced (yB P ((k 0).bind g)) none=(cond q.forced (yB P (k 0)) none).bind _;cases q.forced
   ·rfl
   ·exact xY g (k 0)
 | .sys _ _=>rfl
 | .program k=>xY g (k P)
 | .mark _ k=>xY g k
 | .halt _=>rfl
def aB (P:Program)(f:Inj)(l l':List MapEntry):Prop:=l.length=l'.length∧∀ (i:Nat) x x',l[i]?=some x->l'[i]?=some x'->x'.key=x.key∧x'.born=x.born∧zFB P f x.val x'.val
theorem aB.nil:aB P f [] []:=⟨rfl,fun i v v' h=>by simp at h⟩
theorem aB.zFD (h:aB P f (v::l) m):∃ v' l',m=v'::l'∧(v'.key=v.key∧v'.born=v.born∧zFB P f v.val v'.val)∧aB P f l l':=by
 cases m with
 | nil=>simp[aB] at h
 | cons v' l'=>exact⟨v',l',rfl,h.2 0 v v' rfl rfl,by have:=h.1;simpa using this,fun i u u' hu hu'=>h.2 (i+1) u u' (by simpa using hu) (by simpa using hu')⟩
theorem aB.zFF (h:aB P f [] m):m=[]:=by
 cases m with
 | nil=>rfl
 | cons a b=>simp[aB] at h
theorem aB.cons {v':MapEntry}(h:v'.key=v.key∧v'.born=v.born∧zFB P f v.val v'.val)(t:aB P f l l'):aB P f (v::l) (v'::l') :=
 ⟨by simp[t.1],fun i u u' hu hu'=>by
   cases i with
   | zero=>simp at hu hu';subst hu hu';exact h
   | succ i=>exact t.2 i u u' (by simpa using hu) (by simpa using hu')⟩
theorem aB.get (h:aB P f l l'){i:Nat}(hv:l[i]?=some v):∃ v',l'[i]?=some v'∧v'.key=v.key∧v'.born=v.born∧zFB P f v.val v'.val:=by
 have hlt:i < l.length:=(zM6.1 hv).1;have hlt':i < l'.length:=h.1 ▸ hlt;exact⟨l'[i],zM2 hlt',h.2 i v _ hv (zM2 hlt')⟩
theorem qCT {f:Inj}{kd:TypeDesc}{k:Value}:∀ (l l':List MapEntry) (i:Nat),aB P f l l' ->
 (Instr.findNow kd k l' i).map (fun r=>r.map (·.1))=(Instr.findNow kd k l i).map (fun r=>r.map (·.1)) ∧
 ∀ j v,Instr.findNow kd k l' i=some (some (j,v))->i<=j∧∃ e,l'[j - i]?=some e∧v=e.val
 | [],l',i,h=>by rw[h.zFF];simp[Instr.findNow]
 | e::l,l',i,h=>by
   obtain⟨e',t',rfl,he,ht⟩:=h.zFD;simp only[Instr.findNow,he.1]
   cases Instr.sameNow kd k e.key with
   | none=>simp
   | some b =>
     cases b with
     | true=>simp
     | false =>
       simp only;obtain⟨h1,h2⟩:=qCT l t' (i+1) ht;refine⟨h1,fun j v hj=>?_⟩;obtain⟨hij,e2,h3,h4⟩:=h2 j v hj;refine⟨by omega,e2,?_,h4⟩;rw[show j - i=(j - (i+1))+1 by omega];simpa using h3
theorem dR {f:Inj}{kt:TypeId}{k:Value}:∀ (l l':List MapEntry) (i:Nat) (r:Option (Nat×Value)),aB P f l l'->yB P (Instr.findAsking kt k l i)=some r ->
 ∃ r',yB P (Instr.findAsking kt k l' i)=some r'∧r'.map (·.1)=r.map (·.1)∧∀ j v,r'=some (j,v)->i<=j∧∃ e,l'[j - i]?=some e∧v=e.val
 | [],l',i,r,h,hr=>by
   rw[h.zFF];have:some none=some r:=hr;cases this;exact⟨none,rfl,rfl,fun j v h=>by cases h⟩
 | e::l,l',i,r,h,hr=>by
   obtain⟨e',t',rfl,he,ht⟩:=h.zFD;have hr':yB P ((Op.equal kt k e.key).bind fun b=>if b=true then pure (some (i,e.val)) else Instr.findAsking kt k l (i+1))=some r:=hr;rw[xY] at hr'
   have goal:∀ x,yB P (Instr.findAsking kt k (e'::t') i)=x ↔ (yB P (Op.equal kt k e.key)).bind (fun b=>yB P (if b=true then pure (some (i,e'.val)) else Instr.findAsking kt k t' (i+1)))=x:=by
    intro x;rw[<-xY,<-he.1];exact Iff.rfl
   cases hb:yB P (Op.equal kt k e.key) with
   | none=>rw[hb] at hr';cases hr'
   | some b =>
     rw[hb] at hr'
     cases b with
     | true =>
       have:some (some (i,e.val))=some r:=hr';cases this;refine⟨some (i,e'.val),(goal _).2 (by rw[hb];rfl),rfl,fun j v hj=>?_⟩;cases hj;exact⟨zM0 _,e',by simp,rfl⟩
     | false =>
       have h1:yB P (Instr.findAsking kt k l (i+1))=some r:=hr';obtain⟨r',h2,h3,h4⟩:=dR l t' (i+1) r ht h1;refine⟨r',(goal _).2 (by rw[hb];exact h2),h3,fun j v hj=>?_⟩;obtain⟨hij,e2,h5,h6⟩:=h4 j v hj;refine⟨by omega,e2,?_,h6⟩;rw[show j - i=(j - (i+1))+1 by omega];simpa using h5
theorem yA:yB P (underlying t)=P.underlying t:=by
 show yB P (match P.underlying t with
  | some d=>pure d
  | none=>stuck "no such type")=_
 cases P.underlying t <;> rfl
theorem qME {r:Option (Nat×Value)}(h:aB P f l l')(hr:yB P (Instr.findKey kt k l)=some r) :
 ∃ r',(∀ w,(Instr.findKey kt k l').run P w=.ok r' w)∧r'.map (·.1)=r.map (·.1)∧∀ j v,r'=some (j,v)->∃ e,l'[j]?=some e∧v=e.val:=by
 have key:∀ l,yB P (Instr.findKey kt k l)=(P.underlying kt).bind fun kd=>(match Instr.findNow kd k l 0 with
  | some r=>some r
  | none=>yB P (Instr.findAsking kt k l)):=by
  intro l;show yB P ((underlying kt).bind _)=_;rw[xY,yA]
  congr 1
  funext kd
  cases Instr.findNow kd k l 0 <;> rfl
 rw[key] at hr;obtain⟨kd,hu,hr⟩:=zOZ.1 hr;obtain⟨h1,h2⟩:=qCT (kd:=kd) (k:=k) l l' 0 h;have fin:∀ r',yB P (Instr.findKey kt k l')=some r'->∀ w,(Instr.findKey kt k l').run P w=.ok r' w:=fun r' hr'=>uH _ hr'
 cases hn:Instr.findNow kd k l 0 with
 | some r0 =>
   rw[hn] at hr h1;simp only[zM7] at hr;subst hr
   cases hn':Instr.findNow kd k l' 0 with
   | none=>rw[hn'] at h1;cases h1
   | some r' =>
     rw[hn'] at h1;simp only[zNE,zM7] at h1;refine⟨r',fin r' (by rw[key,hu,zNI,hn']),h1,fun j v hj=>?_⟩;subst hj;obtain⟨_,e,h3,h4⟩:=h2 j v hn';exact⟨e,by simpa using h3,h4⟩
 | none =>
   rw[hn] at hr h1
   have hn':Instr.findNow kd k l' 0=none:=by
    cases hx:Instr.findNow kd k l' 0 with
    | none=>rfl
    | some y=>rw[hx] at h1;cases h1
   obtain⟨r',g1,g2,g3⟩:=dR l l' 0 r h hr;refine⟨r',fin r' (by rw[key,hu,zNI,hn'];exact g1),g2,fun j v hj=>?_⟩;obtain⟨_,e,h3,h4⟩:=g3 j v hj;exact⟨e,by simpa using h3,h4⟩
theorem tF {r:Option Nat}(h:aB P f es.toList es'.toList)(hk:zFB P f k k')(hr:mP P kt k es.toList=some r) :
 k'=k∧(∀ w,(Instr.checkKey es'.isEmpty 10000 kt k).run P w=.ok () w)∧(∀ w,(Instr.checkKey false 10000 kt k).run P w=.ok () w) ∧
 ∃ r',(∀ w,(Instr.findKey kt k es'.toList).run P w=.ok r' w)∧r'.map (·.1)=r∧∀ j v,r'=some (j,v)->∃ e,es'[j]?=some e∧v=e.val:=by
 unfold mP at hr;split at hr
 ·rename_i hp;simp only[zMY] at hp;split at hr
  ·rename_i u1 u2 r0 h1 h2 h3;cases hr
   have hem:es'.isEmpty=es.toList.isEmpty:=by
    have:=h.1
    cases hx:es.toList with
    | nil=>rw[hx] at this;simp at this;simp;exact zOS this.symm
    | cons a b=>rw[hx] at this;simp at this;simp;intro hc;rw[hc] at this;simp at this
   obtain⟨r',g1,g2,g3⟩:=qME h h3;refine⟨hk.plain hp.1,by rw[hem];exact uH _ h1,uH _ h2,r',g1,g2,fun j v hj=>?_⟩;obtain⟨e,q1,q2⟩:=g3 j v hj;exact⟨e,by simpa using q1,q2⟩
  ·cases hr
 ·cases hr
theorem qFD {r:Nat}{e:Emb}(hR:Rel P f H w)(he:f r=some e)(hg:H.get r=some (.map es clk)) :
 e.ro=false∧∃ es',w.heap[e.r]?=some (.map es' clk)∧aB P f es.toList es'.toList:=by
 obtain⟨h0,es',h1,h2,h3⟩:=hR.obj r e _ he hg
 exact⟨h0,es',h1,by simpa using h2.symm,fun i x x' hx hx'=>by
  obtain⟨x2,g1,g2⟩:=h3 i x (by simpa using hx);rw[show es'[i]?=some x' by simpa using hx'] at g1
  cases g1;exact g2⟩
theorem qQ4 {v:Value}{ok:Bool}(hR:Rel P f H w)(h:qAS P t x k ok H=some v)(hx:zFB P f x x')(hk:zFB P f k k') :
 Post P f H w v H ((Instr.lookup t x' k' ok).run P w):=by
 unfold qAS at h;split at h
 ·rename_i kt et r hu
  ·obtain⟨e,he,rfl⟩:=hx.zGV;split at h
   ·rename_i es clk hg;obtain⟨_,es',h1,h2⟩:=qFD hR he hg;have hob:=jD (P:=P) h1 (fun _ _ _ hx=>by cases hx);split at h
    ·rename_i i hf;obtain⟨rfl,c1,_,r',c2,c3,c4⟩:=tF h2 hk hf;split at h
     ·rename_i en hen;cases h;obtain⟨⟨j,u⟩,rfl,hj⟩:=zM8.1 c3;simp only at hj;subst hj;obtain⟨e2,q1,rfl⟩:=c4 j u rfl;obtain⟨e3,q3,q4,q5,q6⟩:=h2.get (i:=j) (v:=en) (by simpa using hen);rw[show es'.toList[j]?=es'[j]? by simp,q1] at q3;cases q3;refine .same hR (v':=q4P ok e2.val true) ?_ ?_
      ·cases ok <;> simp[Instr.lookup,run_underlying hu,hob,c1,c2,q4P]
      ·cases ok
       ·exact q6
       ·exact .zF6 (.cons q6 (.cons (.base _ rfl) .nil))
     ·cases h
    ·rename_i hf;obtain⟨rfl,c1,_,r',c2,c3,c4⟩:=tF h2 hk hf;split at h
     ·rename_i z hz;split at h
      ·rename_i hpl;cases h;have hr':r'=none:=by cases r' <;> simp at c3 ⊢
       subst hr';refine .same hR (v':=q4P ok z false) ?_ ?_
       ·cases ok <;> simp[Instr.lookup,run_underlying hu,hob,c1,c2,wU hz,q4P]
       ·cases ok
        ·exact .base _ hpl
        ·exact .zF6 (.cons (.base _ hpl) (.cons (.base _ rfl) .nil))
      ·cases h
     ·cases h
    ·cases h
   ·cases h
 ·cases h
theorem aB.modify (h:aB P f l l')(i:Nat)(g g':MapEntry->MapEntry)
 (hg:∀ x x',(x'.key=x.key∧x'.born=x.born∧zFB P f x.val x'.val)->((g' x').key=(g x).key∧(g' x').born=(g x).born∧zFB P f (g x).val (g' x').val)) :
 aB P f (l.modify i g) (l'.modify i g'):=by
 refine⟨by simp[h.1],fun j x x' hx hx'=>?_⟩;rw[List.getElem?_modify] at hx hx';obtain⟨y,hy,rfl⟩:=zM8.1 hx;obtain⟨y',hy',rfl⟩:=zM8.1 hx';have:=h.2 j y y' hy hy';by_cases hij:i=j
 ·simp only[hij,if_true];exact hg y y' this
 ·simp only[hij,if_false];exact this
theorem aB.push (h:aB P f l l'){x x':MapEntry}(hx:x'.key=x.key∧x'.born=x.born∧zFB P f x.val x'.val):aB P f (l++[x]) (l'++[x']):=by
 induction l generalizing l' with
 | nil=>rw[h.zFF];exact .cons hx .nil
 | cons v l ih=>obtain⟨v',t',rfl,hv,ht⟩:=h.zFD;exact .cons hv (ih ht)
theorem pX {r:Nat}{o o1:Obj}(h:w.heap[r]?=some o)(hn:∀ c e z,o≠.cells c e z):(setObj r o1).run P w=.ok () (World.put w r o1):=by
 unfold setObj Sem.run;rw[h]
 cases o <;> first | (exact absurd rfl (hn _ _ _)) | rfl
theorem qFV {r:Nat}{e:Emb}{es1 zHQ:Array MapEntry}{zHI:Nat}(hR:Rel P f H w)(he:f r=some e)(hg:H.get r=some (.map es clk))
 (h0:w.heap[e.r]?=some (.map es' clk)) (h1:aB P f es1.toList zHQ.toList) (hro:e.ro=false) :
 Rel P f (H.put r (.map es1 zHI)) (World.put w e.r (.map zHQ zHI))∧Grow f H w f (H.put r (.map es1 zHI)) (World.put w e.r (.map zHQ zHI))∧Keep f H (H.put r (.map es1 zHI)):=by
 have hlt:=hR.bound r e he;refine Rel.put (o1':=.map zHQ zHI) hR he hg rfl hro ⟨hro,zHQ,rfl,by simpa using h1.1.symm,fun i x hx=>?_⟩ (fun x=>heap_put hlt) (by simp[World.put]);obtain⟨x',q1,q2⟩:=h1.get (i:=i) (v:=x) (by simpa using hx);exact⟨x',by simpa using q1,q2⟩
theorem qFY {H':IH}{v v':Value}(hR:Rel P f H w)(h:jM P t x k v H=some H')(hx:zFB P f x x')(hk:zFB P f k k')(hv:zFB P f v v') :
 ∃ w',(Instr.mapUpdate t x' k' v').run P w=.ok () w'∧Rel P f H' w'∧Grow f H w f H' w'∧Keep f H H':=by
 unfold jM at h;split at h
 ·rename_i kt et r hu;obtain⟨e,he,rfl⟩:=hx.zGV;split at h
  ·rename_i es clk hg;obtain⟨hro,es',h1,h2⟩:=qFD hR he hg;have hob:=jD (P:=P) h1 (fun _ _ _ hx=>by cases hx);have hso:∀ o1,(setObj e.r o1).run P w=.ok () (World.put w e.r o1):=fun o1=>pX (P:=P) (o1:=o1) h1 (fun _ _ _ hx=>by cases hx)
   split at h
   ·split at h
    ·rename_i i hf;obtain⟨rfl,_,c1,r',c2,c3,c4⟩:=tF h2 hk hf;split at h
     ·rename_i en hen;split at h
      ·rename_i hsb;cases h;obtain⟨⟨j,u⟩,rfl,hj⟩:=zM8.1 c3;simp only at hj;subst hj;obtain⟨e2,q1,rfl⟩:=c4 j u rfl;obtain⟨e3,q3,q4,q5,q6⟩:=h2.get (i:=j) (v:=en) (by simpa using hen);rw[show es'.toList[j]?=es'[j]? by simp,q1] at q3;cases q3
       obtain⟨g1,g2,g3⟩:=qFV (zHI:=clk) (es1:=es.modify j fun e=>{ e with key:=k',val:=v }) (zHQ:=es'.modify j fun e=>{ e with key:=k',val:=v' }) hR he hg h1
        (by simpa [Array.toList_modify] using h2.modify j (fun e=>{ e with key:=k',val:=v }) (fun e=>{ e with key:=k',val:=v' }) (fun x x' hxx=>⟨rfl,hxx.2.1,hv⟩)) hro
       refine⟨_,?_,g1,g2,g3⟩;rw[<-q4] at hsb;simp[Instr.mapUpdate,run_underlying hu,hob,c1,c2,q1,Instr.keyThatStays,hsb,hso]
      ·cases h
     ·cases h
    ·rename_i hf;obtain⟨rfl,_,c1,r',c2,c3,c4⟩:=tF h2 hk hf;cases h;have hr':r'=none:=by cases r' <;> simp at c3 ⊢
     subst hr'
     obtain⟨g1,g2,g3⟩:=qFV (zHI:=clk+1) (es1:=es.push { key:=k',val:=v,born:=clk }) (zHQ:=es'.push { key:=k',val:=v',born:=clk }) hR he hg h1
      (by simpa using h2.push (x:={ key:=k',val:=v,born:=clk }) (x':={ key:=k',val:=v',born:=clk }) ⟨rfl,rfl,hv⟩) hro
     refine⟨_,?_,g1,g2,g3⟩;simp[Instr.mapUpdate,run_underlying hu,hob,c1,c2,hso]
    ·cases h
   ·cases h
  ·cases h
 ·cases h
end Go.Idl
namespace Go.Idl
variable {P:Program}
variable {H H':IH}{f:Inj}{l':List MapEntry}{t:TypeId}{v x x':Value}{w:World}
theorem bI (hR:Rel P f H w):f H.size=none:=by
 cases hx:f H.size with
 | none=>rfl
 | some y=>have:=hR.dom _ _ hx;omega
theorem qTR (hR:Rel P f H w)(h:rY P t x H=some (.val v H'))(hx:zFB P f x x') :
 Post P f H w v H' ((Instr.range t x').run P w):=by
 unfold rY at h;split at h
 ·rename_i s hu;have:=hx.str;subst this;obtain⟨rfl,rfl⟩:=val_inj h
  have hO:tX P (f.add H.size ⟨w.heap.size,0,0,false⟩) ⟨w.heap.size,0,0,false⟩ (.stringIter s 0) (some (.stringIter s 0)):=⟨rfl,rfl,rfl⟩
  obtain⟨g1,g2⟩:=Rel.push hR rfl hO;exact⟨_,_,_,by simp[Instr.range,run_underlying hu,newObj,Sem.run],g1,g2,qGE Inj.add_same rfl rfl,.push⟩
 ·rename_i k el m hu;obtain⟨e,he,rfl⟩:=hx.zGV;split at h
  ·rename_i es clk hg;obtain⟨hro,es',h1,h2⟩:=qFD hR he hg;have hob:=jD (P:=P) h1 (fun _ _ _ hx=>by cases hx);obtain⟨rfl,rfl⟩:=val_inj h;have hle:f.le (f.add H.size ⟨w.heap.size,0,0,false⟩):=Inj.zGG (bI hR)
   have hO:tX P (f.add H.size ⟨w.heap.size,0,0,false⟩) ⟨w.heap.size,0,0,false⟩ (.mapIter (some m) clk #[] 0) (some (.mapIter (some e.r) clk #[] clk)) :=
    ⟨rfl,rfl,e,#[],clk,hle _ _ he,rfl,(fun x=>by simp),(fun n hn=>by cases hn),(fun _=>rfl),(fun x hx=>absurd hx (by simp))⟩
   obtain⟨g1,g2⟩:=Rel.push hR rfl hO;refine⟨_,_,_,?_,g1,g2,qGE Inj.add_same rfl rfl,.push⟩;simp[Instr.range,run_underlying hu,hob,newObj,Sem.run]
  ·cases h
 ·cases h
theorem fQ {n x:Nat}:∀ {l:List Nat},x∈insertSorted n l ↔ x=n∨x∈l
 | []=>by simp[insertSorted]
 | m::l=>by
   unfold insertSorted;split
   ·simp
   ·simp only[zNF,fQ (l:=l)];constructor
    ·rintro (h | h | h)
     ·exact .inr (.inl h)
     ·exact .inl h
     ·exact .inr (.inr h)
    ·rintro (h | h | h)
     ·exact .inr (.inl h)
     ·exact .inl h
     ·exact .inr (.inr h)
theorem aB.filter {f:Inj}{p p':MapEntry->Bool}:∀ (l l':List MapEntry),aB P f l l'->(∀ x x':MapEntry,x'.born=x.born->p' x'=p x)->aB P f (l.filter p) (l'.filter p')
 | [],l',h,_=>by rw[h.zFF];exact .nil
 | e::l,l',h,hp=>by
   obtain⟨e',t',rfl,he,ht⟩:=h.zFD;have:=hp e e' he.2.1;simp only[zP3,this];split
   ·exact .cons he (aB.filter l t' ht hp)
   ·exact aB.filter l t' ht hp
def zDK (P:Program)(f:Inj)(H:IH)(w:World)(n:Nat)(k:Nat->Option (Value×IH))(r:Result Value):Prop :=
 ∃ i,i < n∧∀ v H',k i=some (v,H')->Post P f H w v H' r
theorem q2Y (n:Nat)(h:0 < n)(w:World):(Question.mapNext n).cut (w.tape w.drawn (.mapNext n)) < n:=by
 simp[Question.cut];exact Nat.mod_lt _ h
theorem qW8 (hR:Rel P f H w)(h:qC9 x true H=some (.val v H'))(hx:zFB P f x x') :
 Post P f H w v H' ((Instr.next x' true t).run P w):=by
 unfold qC9 at h;split at h
 ·rename_i r;obtain⟨e,he,rfl⟩:=hx.zFX;split at h
  ·rename_i s pos hg _;obtain⟨hro,hsh,h1⟩:=hR.obj r e _ he hg;have hob:=jD (P:=P) h1 (fun _ _ _ hx=>by cases hx);have hso:∀ o1,(setObj e.r o1).run P w=.ok () (World.put w e.r o1):=fun o1=>pX (P:=P) (o1:=o1) h1 (fun _ _ _ hx=>by cases hx)
   split at h
   ·split at h
    ·rename_i hlt;obtain⟨rfl,rfl⟩:=val_inj h
     obtain⟨g1,g2,g3⟩:=Rel.put (o1:=.stringIter s (pos+(Utf8.decode s pos).2)) (o1':=.stringIter s (pos+(Utf8.decode s pos).2)) (w':=World.put w e.r (.stringIter s (pos+(Utf8.decode s pos).2)))
      hR he hg rfl hro ⟨hro,hsh,rfl⟩ (fun x=>heap_put (hR.bound r e he)) (by simp[World.put])
     refine⟨.tuple #[.bool true,goInt pos,.int .i32 (Utf8.decode s pos).1],_,f,?_,g1,g2,.zF6 (.cons (.base _ rfl) (.cons (.base _ rfl) (.cons (.base _ rfl) .nil))),g3⟩;simp[Instr.next,hsh,hob,hlt,hso]
    ·rename_i hlt;obtain⟨rfl,rfl⟩:=val_inj h;refine .same hR (v':=.tuple #[.bool false]) ?_ (.zF6 (.cons (.base _ rfl) .nil));simp[Instr.next,hsh,hob,hlt]
   ·cases h
  ·rename_i hb;cases hb
  ·cases h
 ·cases h
theorem filter_none {l:List MapEntry}(h:aB P f l l'){p:MapEntry->Bool}(hp:∀ x x':MapEntry,x'.born=x.born->p x'=p x)(h0:∀ x∈l,p x=false):l'.filter p=[]:=by
 have:=(aB.filter (p:=p) (p':=p) l l' h hp)
 rw[List.filter_eq_nil_iff.2 (fun x hx=>by simp[h0 x hx])] at this;exact this.zFF
theorem filter_all {l:List MapEntry}(h:aB P f l l'){p:MapEntry->Bool}(hp:∀ x x':MapEntry,x'.born=x.born->p x'=p x)(h0:∀ x∈l,p x=true):l'.filter p=l':=by
 rw[List.filter_eq_self];intro x hx;obtain⟨i,hi,rfl⟩:=zN3.1 hx;have hi2:i < l.length:=by rw[h.1];exact hi
 have:=h.2 i l[i] l'[i] (zM2 hi2) (zM2 hi);rw[hp _ _ this.2.1];exact h0 _ (zOG hi2)
def qZH (P:Program)(f:Inj)(H:IH)(w:World)(s:zFH)(r:Result Value):Prop :=
 match s with
 | .val v H'=>Post P f H w v H' r
 | .choice n k=>zDK P f H w n k r
 | _=>False
theorem qT5 {s:zFH}(hR:Rel P f H w)(h:qC9 x false H=some s)(hx:zFB P f x x') :
 qZH P f H w s ((Instr.next x' false t).run P w):=by
 unfold qC9 at h;split at h
 ·rename_i r;obtain⟨e,he,rfl⟩:=hx.zFX;split at h
  ·rename_i hb;cases hb
  ·rename_i m since seen last hg _;obtain⟨hro,hsh,em,seen',st,hm,h1,zIJ,hlast,hst,hlt⟩:=hR.obj r e _ he hg;have hob:=jD (P:=P) h1 (fun _ _ _ hx=>by cases hx);have hso:∀ o1 w',w'.heap=w.heap->(setObj e.r o1).run P w'=.ok () (World.put w' e.r o1):=fun o1 w' hw'=>pX (P:=P) (o:=.mapIter (some em.r) since seen' st) (o1:=o1) (by rw[hw'];exact h1) (fun _ _ _ hx=>by cases hx)
   split at h
   ·rename_i es clk hgm;obtain⟨hro2,es',h2,hE⟩:=qFD hR hm hgm;have zHR:=jD (P:=P) h2 (fun _ _ _ hx=>by cases hx);split at h
    ·rename_i hc;simp only[zMY,beq_iff_eq,decide_eq_true_eq,zPB] at hc;obtain⟨⟨hbase,zLL⟩,hborn⟩:=hc;subst zLL;have hbl:∀ x∈es.toList,decide (x.born < clk)=true:=fun x hx=>by have:=hborn x (by simpa using hx);simpa using this
     -- the guard against entries that are all new
     have hguard:(!seen'.isEmpty&&!es'.isEmpty&&es'.all fun e=>decide (e.born ≥ st))=false:=by
      by_cases hse:seen'.isEmpty=true
      ·simp[hse]
      ·have hst':=hst (by simpa using hse);subst hst';by_cases hee:es'.isEmpty=true
       ·simp[hee]
       ·have hne:es'.size≠0:=fun h0=>hee (by simpa using zOS h0)
        have hl:0 < es'.toList.length:=by simpa using Nat.pos_of_ne_zero hne
        have hl2:0 < es.toList.length:=by rw[hE.1];exact hl
        have h3:=hE.2 0 _ _ (zM2 hl2) (zM2 hl);have h4:=hbl _ (zOG hl2);rw[Bool.and_eq_false_iff];right;rw[zRI];intro hall;rw[zPB] at hall;have h5:=hall es'.toList[0] (zN9.2 (zOG hl));rw[h3.2.1] at h5;simp at h4 h5;omega
     have hsc:∀ b,seen'.contains b=seen.contains b:=fun b=>by
      rw[Bool.eq_iff_iff];simp only[Array.contains_iff_mem];rw[zIJ b];simp
     have zHC:aB P f (es.filter fun e=>!seen.contains e.born).toList (es'.filter fun e=>!seen'.contains e.born).toList:=by
      rw[zP6,zP6];exact aB.filter _ _ hE (fun x x' hxx=>by rw[hxx,hsc])
     have hlb:∀ x∈(es.filter fun e=>!seen.contains e.born).toList,decide (x.born < clk)=true:=fun x hx=>by
      rw[zP6] at hx;exact hbl x ((zQ9.1 hx).1)
     generalize hleft:(es.filter fun e=>!seen.contains e.born)=left at *;generalize zIK:(es'.filter fun e=>!seen'.contains e.born)=left' at *
     have hold:left'.filter (fun e=>decide (e.born < clk))=left':=by
      apply zOJ;rw[zP6];exact filter_all zHC (fun x x' hxx=>by rw[hxx]) hlb
     have hnew:left'.filter (fun e=>decide (e.born ≥ clk))=#[]:=by
      apply zOJ;rw[zP6];exact filter_none zHC (fun x x' hxx=>by rw[hxx]) (fun x hx=>by have:=hlb x hx;simp at this ⊢;exact this)
     have hsz:left'.size=left.size:=by simpa using zHC.1.symm
     unfold qHA at h;split at h
     ·rename_i hem;cases h;have hl0:left'=#[]:=zOS (by rw[hsz];simpa using hem)
      have hsame:∀ x:Nat,w.heap[x]?=if x=e.r then some (.mapIter (some em.r) clk seen' st) else w.heap[x]?:=by
       intro x;by_cases hxe:x=e.r
       ·rw[if_pos hxe,hxe,h1]
       ·rw[if_neg hxe]
      obtain⟨g1,g2,g3⟩:=Rel.put (o1:=.mapIter (some m) clk seen 0) (o1':=.mapIter (some em.r) clk seen' st) (w':=w)
       hR he hg rfl hro ⟨hro,hsh,em,seen',st,hm,rfl,zIJ,(fun n hn=>by cases hn),hst,hlt⟩ hsame rfl
      refine⟨.tuple #[.bool false],w,f,?_,g1,g2,.zF6 (.cons (.base _ rfl) .nil),g3⟩;subst hl0;simp only[Instr.next,hsh,zNY,Sem.run_bind,hob,Result.andThen_ok,zHR,hguard,zOY,if_false,zIK,hold,hnew];simp[choose,Sem.run,Question.forced]
     ·rename_i hem;cases h;have hne:0 < left'.size:=by rw[hsz];exact Nat.pos_of_ne_zero fun h0=>hem (by simpa using zOS h0)
      -- whichever entry comes
      have post:∀ (i:Nat) (w':World),w'.heap=w.heap->(w'.os=w.os∧w'.output=w.output∧w'.tape=w.tape)->i < left.size->∀ v H',(match left[i]? with
       | some en=>if !yF en.key then none else some (Value.tuple #[.bool true,en.key,en.val],H.put r (.mapIter (some m) clk (insertSorted en.born seen.toList).toArray (en.born+1)))
       | none=>none)=some (v,H')->∃ en',left'[i]?=some en'∧Post P f H w v H' (.ok (.tuple #[.bool true,en'.key,en'.val]) (World.put w' e.r (.mapIter (some em.r) clk (seen'.push en'.born) clk))):=by
       intro i w' hw' hot hi v H' hk;split at hk
       ·rename_i en hen;split at hk
        ·cases hk
        ·rename_i hpl;cases hk;have hpl:yF en.key=true:=by simpa using hpl
         obtain⟨en',q1,q2,q3,q4⟩:=zHC.get (i:=i) (v:=en) (by simpa using hen);refine⟨en',by simpa using q1,?_⟩
         obtain⟨g1,g2,g3⟩:=Rel.put (o1:=.mapIter (some m) clk (insertSorted en.born seen.toList).toArray (en.born+1)) (o1':=.mapIter (some em.r) clk (seen'.push en'.born) clk)
          (w':=World.put w' e.r (.mapIter (some em.r) clk (seen'.push en'.born) clk)) hR he hg rfl hro
          ⟨hro,hsh,em,_,_,hm,rfl,(fun x=>by rw[q3];simp[fQ,zIJ x,or_comm]),(fun n hn=>by simp at hn;simp[q3,hn]),(fun _=>rfl),(fun x hx=>by
            rw[Array.mem_push] at hx;rcases hx with hx | hx
            ·exact hlt x hx
            ·rw[hx,q3]
             have:=hlb en (by
              have:=List.mem_iff_getElem?.2 ⟨i,show left.toList[i]?=some en by simpa using hen⟩
              exact this)
             simpa using this)⟩
          (fun x=>by rw[heap_put (by rw[hw'];exact hR.bound r e he),hw']) (by simp[World.put,hw']) hot
         exact⟨_,_,f,rfl,g1,g2,.zF6 (.cons (.base _ rfl) (.cons (by rw[q2];exact .base _ hpl) (.cons q4 .nil))),g3⟩
       ·cases hk
      have zLM:left'.isEmpty=false:=by
       rw[zRI];intro hc;have:left'.size=0:=by simpa using hc
       omega
      have zKL:((if left'.isEmpty=true then #[none] else #[])++Array.map some (left'++#[]))=left'.map some:=by simp[zLM]
      have zIL:∀ i w' en',left'[i]?=some en'->w'.heap=w.heap->(choose (.mapNext left'.size)).run P w=.ok i w' ->
       (Instr.next (.pointer (some ⟨e.r,0+e.shift,none⟩)) false t).run P w=.ok (.tuple #[.bool true,en'.key,en'.val]) (World.put w' e.r (.mapIter (some em.r) clk (seen'.push en'.born) clk)):=by
       intro i w' en' hi hw' hch;simp only[Instr.next,hsh,zNY,Sem.run_bind,hob,Result.andThen_ok,zHR,hguard,zOY,if_false,zIK,hold,hnew,zKL,Array.size_map];rw[hch];simp[hi,hso _ w' hw']
      by_cases hone:left'.size<=1
      ·refine⟨0,by omega,fun v H' hk=>?_⟩;obtain⟨en',q1,q2⟩:=post 0 w rfl ⟨rfl,rfl,rfl⟩ (by omega) v H' hk;rw[zIL 0 w en' q1 rfl (by simp[choose,Sem.run,Question.forced,hone])];exact q2
      ·refine⟨(Question.mapNext left'.size).cut (w.tape w.drawn (.mapNext left'.size)),?_,fun v H' hk=>?_⟩
       ·rw[<-hsz];exact q2Y _ hne w
       ·obtain⟨en',q1,q2⟩:=post _ w.drew rfl ⟨rfl,rfl,rfl⟩ (by rw[<-hsz];exact q2Y _ hne w) v H' hk
        rw[zIL _ w.drew en' q1 rfl (by
         unfold choose Sem.run;rw[if_neg (by simpa [Question.forced] using hone)]
         rfl)]
        exact q2
    ·cases h
   ·cases h
  ·cases h
 ·cases h
end Go.Idl
namespace Go.Idl
variable {P:Program}
variable {H:IH}{as:List Value}{c:Call}{f:Inj}{fn:Func}{g:FuncId}{o:Oper}{ts:Array TypeId}{w:World}{ρ:Operand->Value}
theorem qF8:Extern.allNextRows.lookup "internal/abi.NoEscape" = none:=by kernel_rfl
theorem qR3:Extern.allNextRows.lookup "" = none:=by kernel_rfl
theorem sP:Extern.allGenericRows.lookup "internal/abi.NoEscape" = none:=by kernel_rfl
theorem qC5:Extern.allTypedRows.lookup "internal/abi.NoEscape" = none:=by kernel_rfl
theorem qKU:Extern.allRows.lookup "internal/abi.NoEscape" = some Extern.AbiNoEscape.same:=by kernel_rfl
theorem qGK (hn:fn.name = "internal/abi.NoEscape")(ho:fn.origin = ""):Extern.findNext fn=none∧Extern.find fn=some Extern.AbiNoEscape.same:=by
 unfold Extern.findNext Extern.find;simp only[hn,ho,qF8,qR3,sP,qC5,qKU];exact⟨rfl,rfl⟩
theorem bB {x:Value}(hf:P.funcs[g]?=some fn)(hb:fn.body.isSome=false)(hn:fn.name = "internal/abi.NoEscape")(ho:fn.origin = "") :
 (callFunc g #[x]).run P w=.ok (.value x) w:=by
 obtain⟨h1,h2⟩:=qGK hn ho
 have h3:fn.name ≠ "runtime.NumGoroutine" := by rw[hn];decide
 have h4:fn.body=none:=by cases hx:fn.body <;> simp[hx] at hb ⊢
 have h5:(Extern.AbiNoEscape.same #[x]).run P w=.ok x w:=rfl;unfold callFunc;simp[hf,h3,h4,h1,h2,h5]
theorem run_callFunc_enter {args:Array Value}(hf:P.funcs[g]?=some fn)(hb:fn.body.isSome=true)(hn:(fn.name != "runtime.NumGoroutine")=true) :
 (callFunc g args).run P w=.ok (.enter g args) w:=by
 have h3:fn.name ≠ "runtime.NumGoroutine" := by simpa [bne] using hn
 have h4:fn.body≠none:=by cases hx:fn.body <;> simp[hx] at hb ⊢
 unfold callFunc;simp[hf,h3,h4]
def qEE (P:Program)(f:Inj)(H:IH)(w:World)(s:zFH)(r:Result Next):Prop :=
 match s with
 | .val v H'=>pU P f H w v H' r
 | .enter g args H'=>H'=H∧∃ args',qE P f args args'∧r=.ok (.enter g args'.toArray) w
 | .round l args H'=>H'=H∧∃ e args',f l=some e∧qE P f args args'∧r=(Instr.yield e.r args'.toArray).run P w
 | .choice n k=>∃ i,i < n∧∀ v H',k i=some (v,H')->pU P f H w v H' r
theorem qE.map {f:Inj}{α:Type}(g g':α->Value):∀ (l:List α),(∀ x∈l,zFB P f (g x) (g' x))->qE P f (l.map g) (l.map g')
 | [],_=>.nil
 | a::l,h=>.cons (h a (by simp)) (qE.map g g' l fun x hx=>h x (by simp[hx]))
theorem pU.of_run {H':IH}{v:Value}{s:Sem Value}(he:execOp ρ o=(do pure (Next.value (<- s))))(h:Post P f H w v H' (s.run P w)) :
 pU P f H w v H' ((execOp ρ o).run P w):=by rw[he];exact h.next
theorem val_append {s:zFH}(h:uV P ts as H=some s):∃ v H',s=.val v H':=by
 unfold uV wD qLJ qSA at h
 repeat' split at h
 all_goals first | (cases h;exact⟨_,_,rfl⟩) | cases h
theorem q2N {s:zFH}(h:qDG P ts as H=some s):∃ v H',s=.val v H':=by
 unfold qDG wZ at h
 repeat' split at h
 all_goals first | (cases h;exact⟨_,_,rfl⟩) | cases h
theorem q72 {s:zFH}(h:oJ P ts as H=some s):∃ v H',s=.val v H':=by
 unfold oJ at h
 repeat' split at h
 all_goals first | (cases h;exact⟨_,_,rfl⟩) | cases h
theorem sJ {s:zFH}(h:xM P ts as H=some s):∃ v H',s=.val v H':=by
 unfold xM at h
 repeat' split at h
 all_goals first | (cases h;exact⟨_,_,rfl⟩) | cases h
theorem qMX {b:Builtin}{t:TypeId}{cs:Array Bool}{as':List Value}{s:zFH}(hR:Rel P f H w)(h:yE P b c as H=some s)(ha:qE P f as as') :
 qEE P f H w s ((builtin b c.argTypes t cs as'.toArray).run P w):=by
 unfold yE at h;split at h
 ·obtain⟨v,H',rfl⟩:=val_append h;exact (qSK (t:=t) hR h ha).next
 ·obtain⟨v,H',rfl⟩:=q2N h;exact (q1V (t:=t) hR h ha).next
 ·obtain⟨v,H',rfl⟩:=q72 h;exact (q69 (t:=t) hR h ha).next
 ·split at h
  ·rename_i l c';cases h;obtain⟨x',r,rfl,hx,hr⟩:=ha.zFD;have:=hr.zFF;subst this;exact (qK2 c.argTypes t hR hx).next
  ·rename_i a l c';split at h
   ·rename_i hc;cases h;obtain⟨x',r,rfl,hx,hr⟩:=ha.zFD;have:=hr.zFF;subst this;exact (qFT c.argTypes t hR rfl (by simpa using hc) hx).next
   ·cases h
  ·cases h
 ·obtain⟨v,H',rfl⟩:=sJ h;exact (sO (t:=t) hR h ha).next
 ·cases h
theorem q1D {o:Oper}{env:Env}{s:zFH}(hR:Rel P f H w)(ho:o.op=.call c)(h:fG P c env H=some s)
 (hρ:∀ x∈o.op.operands,zFB P f (env.val x) (ρ x)):qEE P f H w s ((execOp ρ o).run P w):=by
 have zH1:execOp ρ o=(do let d <- resolve ρ c o.type;invoke d.target d.args):=by unfold execOp;rw[ho]
 have hargs:qE P f (kP env.val c.args.toList) (c.args.map ρ).toList:=by
  rw[xC,zPP];refine qE.map _ _ _ fun x hx=>hρ x ?_
  rw[ho];simp only[Op.operands,Call.operands,zPC];right;simpa using hx
 unfold fG at h;simp only at h;split at h
 ·rename_i b hb
  have:∃ cs,(execOp ρ o).run P w=(builtin b c.argTypes o.type cs (c.args.map ρ)).run P w:=by
   rw[zH1];simp only[resolve,hb,invoke,Sem.run_bind,Sem.run_pure,Result.andThen_ok];exact⟨_,rfl⟩
  obtain⟨cs,this⟩:=this;rw[this];have:=qMX (t:=o.type) (cs:=cs) hR h hargs
  rwa [Array.toArray_toList] at this
 ·cases h
 ·rename_i fv hb;have hfv:zFB P f (env.val fv) (ρ fv):=hρ fv (by rw[ho];simp[Op.operands,Call.operands,hb])
  have hrun:∀ fn first captured,ρ fv=.func fn first captured->(execOp ρ o).run P w=(invoke (.fn fn captured) (first++c.args.map ρ)).run P w:=by
   intro fn first captured he
   rw[zH1];simp[resolve,hb,Deferred.ofValue,he]
  split at h
  ·rename_i g first captured he
   rw[he] at hfv
   rcases hfv.zGH with ⟨g',a',c',hg,hv,h1,h2⟩ | ⟨l,e,hg,_⟩
   ·cases hg;rw[hrun _ _ _ hv]
    have hall:qE P f (qEO first.toList (qEO (kP env.val c.args.toList) captured.toList)) (a'.toList++((c.args.map ρ).toList++c'.toList)):=by
     rw[aS,aS];exact h1.append (hargs.append h2)
    have harr:a'++Array.map ρ c.args++c'=(a'.toList++((c.args.map ρ).toList++c'.toList)).toArray:=by apply zOJ;simp
    split at h
    ·rename_i fn hfn;split at h
     ·rename_i hbody;split at h
      ·rename_i hname;cases h;refine⟨rfl,_,hall,?_⟩;simp only[invoke];rw[run_callFunc_enter hfn hbody hname,harr]
      ·cases h
     ·rename_i hbody;split at h
      ·rename_i hname;simp only[zMY,beq_iff_eq] at hname;split at h
       ·rename_i v hv1;cases h;rw[hv1] at hall;obtain⟨v',r,h3,h4,h5⟩:=hall.zFD;have:=h5.zFF;subst this;refine⟨.value v',v',w,f,?_,.inl rfl,hR,.refl _ _ _,h4,.refl _ _⟩;simp only[invoke];rw[harr,h3];exact bB hfn (by simpa using hbody) hname.1 hname.2
       ·cases h
      ·cases h
    ·cases h
   ·cases hg
  ·rename_i l first captured he
   rw[he] at hfv
   rcases hfv.zGH with ⟨g',a',c',hg,_⟩ | ⟨l',e,hg,hf1,hc1,hfl,hv⟩
   ·cases hg
   ·cases hg;split at h
    ·cases h;refine⟨rfl,e,_,hfl,hargs,?_⟩;rw[hrun _ _ _ hv,Array.empty_append,Array.toArray_toList];rfl
    ·cases h
  ·cases h
end Go.Idl
namespace Go.Idl
variable {P:Program}
variable {H H':IH}{env:Env}{f:Inj}{o:Oper}{v:Value}{w:World}{ρ:Operand->Value}
theorem qIV {u:Sem Unit}{r:Option IH}(hr:qLS r=some (.val v H'))(he:execOp ρ o=(do u;pure .skip))
 (h:∀ H2,r=some H2->∃ w',u.run P w=.ok () w'∧Rel P f H2 w'∧Grow f H w f H2 w'∧Keep f H H2):pU P f H w v H' ((execOp ρ o).run P w):=by
 cases r with
 | none=>cases hr
 | some H2 =>
   obtain⟨rfl,rfl⟩:=val_inj hr;obtain⟨w',h1,h2,h3,h4⟩:=h H2 rfl;exact⟨.skip,undef,w',f,by rw[he];simp[h1],.inr ⟨rfl,rfl⟩,h2,h3,.undef,h4⟩
theorem qPW {r:Option IH}{s:zFH}(h:qLS r=some s):∃ v H',s=.val v H':=by
 cases r with
 | none=>cases h
 | some H2=>cases h;exact⟨_,_,rfl⟩
theorem gX {r:Option Value}{s:zFH}(h:zFH.ofO H r=some s):∃ v,s=.val v H∧r=some v:=by
 cases r with
 | none=>cases h
 | some v=>cases h;exact⟨_,rfl,rfl⟩
theorem qFU {s:zFH}(h:kG P o env H=some s):∃ v H',s=.val v H':=by
 obtain⟨v,rfl,_⟩:=qFJ h;exact⟨_,_,rfl⟩
theorem qWD {op:BinOp}{t:TypeId}{x y:Value}{s:zFH}(h:yS P o op t x y env H=some s):∃ v H',s=.val v H':=by
 have hnil:zFP P o op t x y env H=some s->∃ v H',s=.val v H':=by
  intro h;unfold zFP at h
  repeat' split at h
  all_goals first | (cases h;exact⟨_,_,rfl⟩) | exact qFU h
 unfold yS at h;split at h
 ·split at h
  ·unfold zF0 at h;rw[cond_eq_ite] at h;split at h
   ·split at h
    ·cases h;exact⟨_,_,rfl⟩
    ·exact qFU h
   ·exact qFU h
  ·exact hnil h
 ·exact hnil h
theorem Post.zF4 {s:Sem Value}(h:Post P f H w v H' (s.run P w))(he:execOp ρ o=(do pure (Next.value (<- s)))) :
 qEE P f H w (.val v H') ((execOp ρ o).run P w):=pU.of_run he h
theorem pJ (x:Option Operand)(h:∀ y∈x.toArray,zFB P f (env.val y) (ρ y)):u6 P f (x.map env.val) (x.map ρ):=by
 cases x with
 | none=>trivial
 | some y=>exact h y (by simp)
theorem q7J {o:Oper}{s:zFH}(hR:Rel P f H w)(h:iop P o env H=some s)
 (hρ:∀ x∈o.op.operands,zFB P f (env.val x) (ρ x)):qEE P f H w s ((execOp ρ o).run P w):=by
 have dry:kG P o env H=some s->qEE P f H w s ((execOp ρ o).run P w):=by
  intro hd;obtain⟨v,H',rfl⟩:=qFU hd;exact rH hR hd hρ
 have one:∀ (op:Op),o.op=op->∀ x∈op.operands,zFB P f (env.val x) (ρ x):=fun op ho x hx=>hρ x (by rw[ho];exact hx)
 have zHJ:∀ {v:Value} {S:Sem Value},execOp ρ o=(do pure (Next.value (<- S)))->(∃ v',S.run P w=.ok v' w∧zFB P f v v')->qEE P f H w (.val v H) ((execOp ρ o).run P w):=by
  rintro v S he ⟨v',h1,h2⟩;exact⟨.value v',v',w,f,by rw[he];simp[h1],.inl rfl,hR,.refl _ _ _,h2,.refl _ _⟩
 have ex:∀ (op:Op),o.op=op->execOp ρ o=execOp ρ { o with op:=op }:=fun op ho=>by rw[<-ho]
 unfold iop at h;split at h
 ·-- move
  rename_i x ho;have hone:=one _ ho;cases h;exact⟨.value _,_,w,f,by unfold execOp;rw[ho];rfl,.inl rfl,hR,.refl _ _ _,hone _ (by simp[Op.operands]),.refl _ _⟩
 ·rename_i x ho;have hone:=one _ ho;cases h;exact⟨.value _,_,w,f,by unfold execOp;rw[ho];rfl,.inl rfl,hR,.refl _ _ _,hone _ (by simp[Op.operands]),.refl _ _⟩
 ·-- pick
  rename_i c a b ho;have hone:=one _ ho
  have:∃ v H',s=.val v H':=by
   unfold qMI at h;split at h
   ·cases h;exact⟨_,_,rfl⟩
   ·cases h
  obtain⟨v,H',rfl⟩:=this;obtain⟨v',w',f',h1,h2,h3,h4,h5⟩:=q0T hR h (hone c (by simp[Op.operands])) (hone a (by simp[Op.operands])) (hone b (by simp[Op.operands]));refine⟨.value v',v',w',f',?_,.inl rfl,h2,h3,h4,h5⟩;unfold execOp;rw[ho];simp only[Sem.run_bind,Sem.run_pure] at h1 ⊢
  cases hb:(asBool (ρ c)).run P w with
  | ok t w2=>rw[hb] at h1;simp only[Result.andThen_ok] at h1 ⊢;cases h1;rfl
  | halt t w2=>rw[hb] at h1;cases h1
 ·-- alloc
  rename_i elem ho
  have:∃ v H',s=.val v H':=by
   unfold sG at h;split at h
   ·cases h;exact⟨_,_,rfl⟩
   ·cases h
  obtain⟨v,H',rfl⟩:=this;exact (qWZ hR h).zF4 (by unfold execOp;rw[ho])
 ·-- box
  rename_i elem x ho;have hone:=one _ ho
  have:∃ v H',s=.val v H':=by
   unfold q67 at h;split at h
   ·cases h;exact⟨_,_,rfl⟩
   ·cases h
  obtain⟨v,H',rfl⟩:=this;exact (q5A hR h (hone _ (by simp[Op.operands]))).zF4 (by unfold execOp;rw[ho])
 ·-- build
  rename_i t parts ho;have hone:=one _ ho;obtain⟨v,rfl,h1⟩:=gX h
  have hp:q9I P f (parts.toList.map fun p=>(p.1,env.val p.2)) (parts.toList.map fun p=>(p.1,ρ p.2)):=by
   refine⟨by simp,?_⟩;rw[zO6,zO6];exact qE.map _ _ _ fun p hp=>hone p.2 (by simp only[Op.operands];exact List.mem_toArray.2 (zQL hp))
  have:=(qWV (w:=w) hR h1 hp).zF4 (o:=o) (ρ:=ρ) (by unfold execOp;rw[ho];simp only;congr 3;apply zOJ;simp);exact this
 ·-- buildSlice
  rename_i t len parts ho;have hone:=one _ ho
  have:∃ v H',s=.val v H':=by
   unfold kJ at h
   repeat' split at h
   all_goals first | (cases h;exact⟨_,_,rfl⟩) | cases h
  obtain⟨v,H',rfl⟩:=this
  have hp:q9I P f (parts.toList.map fun p=>(p.1,env.val p.2)) (parts.toList.map fun p=>(p.1,ρ p.2)):=by
   refine⟨by simp,?_⟩;rw[zO6,zO6];exact qE.map _ _ _ fun p hp=>hone p.2 (by simp only[Op.operands];exact List.mem_toArray.2 (zQL hp))
  exact (qC0 (w:=w) hR h hp).zF4 (o:=o) (ρ:=ρ) (by unfold execOp;rw[ho];simp only;congr 3;apply zOJ;simp)
 ·-- load
  rename_i t a ho;have hone:=one _ ho;obtain⟨v,rfl,h1⟩:=gX h;exact zHJ (by unfold execOp;rw[ho]) (qDV hR h1 (hone _ (by simp[Op.operands])))
 ·-- store
  rename_i t a x ho;have hone:=one _ ho;obtain⟨v,H',rfl⟩:=qPW h;exact qIV h (by unfold execOp;rw[ho]) fun H2 h2=>qMH hR h2 (hone _ (by simp[Op.operands])) (hone _ (by simp[Op.operands]))
 ·-- nilCheck
  rename_i x ho;have hone:=one _ ho
  have:∃ v H',s=.val v H':=by
   unfold wJ at h
   repeat' split at h
   all_goals first | (cases h;exact⟨_,_,rfl⟩) | cases h
  obtain⟨v,H',rfl⟩:=this;obtain⟨v',h1,rfl,h2⟩:=qJZ hR h (hone _ (by simp[Op.operands])) (o:=o) (ρ:=ρ) ho rfl;exact⟨.value v',v',w,f,h1,.inl rfl,hR,.refl _ _ _,h2,.refl _ _⟩
 ·-- binOp
  rename_i op t x y u ho;obtain⟨v,H',rfl⟩:=qWD h;exact qXC hR ho h hρ
 ·-- convert
  rename_i src dst x ho;have hone:=one _ ho;unfold gU at h;split at h
  ·rename_i a he;obtain⟨v,rfl,h1⟩:=gX h;have hx:=hone x (by simp[Op.operands]);rw[he] at hx;exact (qMA (w:=w) hR h1 hx).zF4 (by unfold execOp;rw[ho])
  ·exact dry h
 ·-- makeFunc
  rename_i fn first captured ho
  have hone:=one _ ho
  have:∃ v H',s=.val v H':=by
   unfold wN at h;split at h
   ·cases h;exact⟨_,_,rfl⟩
   ·cases h
  obtain⟨v,H',rfl⟩:=this;refine (qJU (w:=w) (a':=first.map ρ) (c':=captured.map ρ) hR h ?_ ?_).zF4 (by unfold execOp;rw[ho])
  ·rw[zPP,zPP];exact qE.map _ _ _ fun x hx=>hone x (by simp only[Op.operands,zPC];exact .inl (zN9.2 hx))
  ·rw[zPP,zPP];exact qE.map _ _ _ fun x hx=>hone x (by simp only[Op.operands,zPC];exact .inr (zN9.2 hx))
 ·-- makeMap
  rename_i t r ho
  have:∃ v H',s=.val v H':=by
   unfold bM at h;split at h
   ·cases h;exact⟨_,_,rfl⟩
   ·cases h
  obtain⟨v,H',rfl⟩:=this;exact (qL8 (w:=w) hR h t ρ).zF4 (by unfold execOp;rw[ho])
 ·-- makeSlice
  rename_i t l c ho;have hone:=one _ ho
  have:∃ v H',s=.val v H':=by
   unfold jG at h
   repeat' split at h
   all_goals first | (cases h;exact⟨_,_,rfl⟩) | cases h
  obtain⟨v,H',rfl⟩:=this;exact (qG4 (w:=w) hR h (hone _ (by simp[Op.operands])) (hone _ (by simp[Op.operands]))).zF4 (by unfold execOp;rw[ho])
 ·-- slice
  rename_i t x lo hi mx ho;have hone:=one _ ho;unfold wY at h;split at h
  ·exact dry h
  ·obtain⟨v,rfl,h1⟩:=gX h
   exact zHJ (by unfold execOp;rw[ho]) (qV3 h1 (hone x (by simp[Op.operands]))
    (pJ lo fun y hy=>hone y (by simp only[Op.operands,zPC];exact .inl (.inl (.inr hy))))
    (pJ hi fun y hy=>hone y (by simp only[Op.operands,zPC];exact .inl (.inr hy)))
    (pJ mx fun y hy=>hone y (by simp only[Op.operands,zPC];exact .inr hy)))
 ·-- fieldAddr
  rename_i st x fd ho;have hone:=one _ ho;obtain⟨v,rfl,h1⟩:=gX h;exact zHJ (by unfold execOp;rw[ho]) (qL3 h1 (hone _ (by simp[Op.operands])))
 ·rename_i t x ix ho;have hone:=one _ ho;obtain⟨v,rfl,h1⟩:=gX h;exact zHJ (by unfold execOp;rw[ho]) (qL7 h1 (hone _ (by simp[Op.operands])) (hone _ (by simp[Op.operands])))
 ·-- index
  rename_i t x ix ho;have hone:=one _ ho;unfold uF at h;split at h
  ·exact dry h
  ·obtain⟨v,rfl,h1⟩:=gX h;exact zHJ (by unfold execOp;rw[ho]) (qTH h1 (hone _ (by simp[Op.operands])) (hone _ (by simp[Op.operands])))
 ·-- lookup
  rename_i t x k ok ho;have hone:=one _ ho;obtain⟨v,rfl,h1⟩:=gX h;exact (qQ4 (w:=w) hR h1 (hone _ (by simp[Op.operands])) (hone _ (by simp[Op.operands]))).zF4 (by unfold execOp;rw[ho])
 ·-- mapUpdate
  rename_i t m k x ho;have hone:=one _ ho;obtain⟨v,H',rfl⟩:=qPW h;exact qIV h (by unfold execOp;rw[ho]) fun H2 h2=>qFY hR h2 (hone _ (by simp[Op.operands])) (hone _ (by simp[Op.operands])) (hone _ (by simp[Op.operands]))
 ·-- range
  rename_i t x ho;have hone:=one _ ho
  have:∃ v H',s=.val v H':=by
   unfold rY at h
   repeat' split at h
   all_goals first | (cases h;exact⟨_,_,rfl⟩) | cases h
  obtain⟨v,H',rfl⟩:=this;exact (qTR (w:=w) hR h (hone _ (by simp[Op.operands]))).zF4 (by unfold execOp;rw[ho])
 ·-- next
  rename_i it isS ho;have hone:=one _ ho;have hx:=hone it (by simp[Op.operands]);have he:execOp ρ o=(do pure (Next.value (<- Instr.next (ρ it) isS o.type))):=by unfold execOp;rw[ho]
  cases isS with
  | true =>
    have:∃ v H',s=.val v H':=by
     unfold qC9 at h;split at h
     ·split at h
      ·repeat' split at h
       all_goals first | (cases h;exact⟨_,_,rfl⟩) | cases h
      ·rename_i hb;cases hb
      ·cases h
     ·cases h
    obtain⟨v,H',rfl⟩:=this;exact (qW8 (w:=w) hR h hx).zF4 he
  | false =>
    have:=qT5 (w:=w) (t:=o.type) hR h hx
    cases s with
    | val v H'=>exact Post.zF4 this he
    | choice n k =>
      obtain⟨i,h1,h2⟩:=this;exact⟨i,h1,fun v H' hk=>pU.of_run he (h2 v H' hk)⟩
    | enter g a H'=>exact this.elim
    | round l a H'=>exact this.elim
 ·-- extract
  rename_i t ix ho;have hone:=one _ ho
  have:∃ v H',s=.val v H':=by
   unfold fE at h;split at h
   ·unfold wH at h;split at h
    ·rw[cond_eq_ite] at h;split at h
     ·cases h;exact⟨_,_,rfl⟩
     ·cases h
    ·cases h
   ·cases h
  obtain⟨v,H',rfl⟩:=this;exact (qMR (w:=w) hR h (hone _ (by simp[Op.operands]))).zF4 (by unfold execOp;rw[ho])
 ·-- call
  rename_i c ho;unfold yI at h;split at h
  ·rename_i r hr;cases h;exact q1D hR ho hr hρ
  ·exact dry h
 ·exact dry h
 ·cases h
end Go.Idl
