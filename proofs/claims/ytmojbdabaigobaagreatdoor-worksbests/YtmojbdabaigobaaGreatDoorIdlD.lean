/- Operations of the ideal interpreter against the model's own, second part. Conditions: none. -/
import Derived.Test.YtmojbdabaigobaaGreatDoorIdlC
import Derived.Orders
import Derived.KernelRfl
set_option linter.all false
namespace Go.Idl
variable {P:Program}
variable {H H':IH}{env:Env}{f:Inj}{o:Oper}{v:Value}{w:World}
theorem w9 {α:Type}:∀ (s:Sem α) {x:α},z8 P s=some x->∀ w,s.run P w=.ok x w
 | .pure a,x,h,w=>by
   have:some a=some x:=h;cases this;rfl
 | .load _ _ _,x,h,w=>by have h':none=some x:=h;cases h'
 | .store _ _ _ _,x,h,w=>by have h':none=some x:=h;cases h'
 | .new _ _,x,h,w=>by have h':none=some x:=h;cases h'
 | .shape _ _,x,h,w=>by have h':none=some x:=h;cases h'
 | .freeze _ _ _,x,h,w=>by have h':none=some x:=h;cases h'
 | .frozen _ _,x,h,w=>by have h':none=some x:=h;cases h'
 | .getObj _ _,x,h,w=>by have h':none=some x:=h;cases h'
 | .setObj _ _ _,x,h,w=>by have h':none=some x:=h;cases h'
 | .choose q k,x,h,w=>by
   have h':cond q.forced (z8 P (k 0)) none=some x:=h
   cases hq:q.forced with
   | false=>rw[hq] at h';cases h'
   | true =>
     rw[hq] at h';have:=w9 (k 0) h' w;unfold Sem.run;rw[if_pos hq];exact this
 | .sys _ _,x,h,w=>by have h':none=some x:=h;cases h'
 | .program k,x,h,w=>w9 (k P) h w
 | .mark _ k,x,h,w=>w9 k h w
 | .halt _,x,h,w=>by have h':none=some x:=h;cases h'
def sS (P:Program)(f:Inj)(H:IH)(w:World)(v:Value)(H':IH)(r:Result Next):Prop :=
 ∃ nx v' w' f',r=.ok nx w'∧(nx=.value v'∨(nx=.skip∧v'=undef))∧Rel P f' H' w'∧Grow f H w f' H' w'∧zE0 P f' v v'∧Keep f H H'
theorem Post.next {s:Sem Value}(h:Post P f H w v H' (s.run P w)) :
 sS P f H w v H' ((do pure (Next.value (<- s)):Sem Next).run P w):=by
 obtain⟨v',w',f',h1,h2,h3,h4,h5⟩:=h;exact⟨.value v',v',w',f',by simp[h1],.inl rfl,h2,h3,h4,h5⟩
theorem qWS (h:qH6 v=true)(f:Inj):zE0 P f v v:=by
 cases v <;> first
  | exact .zGB (.zFG h)
  | exact .base _ h
theorem qHM {s:zE7}(h:kL P o env H=some s) :
 ∃ v,s=.val v H∧zQ (kS env.val o.op.operands.toList)=true∧z8 P (execOp env.val o)=some (.value v)∧∀ f,zE0 P f v v:=by
 unfold kL at h;split at h
 ·rename_i hp;unfold qF7 at h;split at h
  ·rename_i v hs;unfold qB7 at h
   cases hd:qH6 v with
   | false=>rw[hd] at h;cases h
   | true =>
     rw[hd] at h;have h':some (zE7.val v H)=some s:=h;cases h';exact⟨v,rfl,hp,hs,qWS hd⟩
  ·cases h
 ·cases h
theorem pJ (h:z8 P (execOp env.val o)=some (.value v)):∀ cs b,o.op≠.select cs b:=by
 intro cs b ho;unfold execOp at h;rw[ho] at h;have:=w9 _ h default;simp only[Sem.run_bind] at this
 cases hm:(Array.mapM (fun s:SelectCase=>do pure { chan:=env.val s.chan,send:=s.send.map env.val,zero:=<- zeroValue s.elem:CommCase }) cs).run P default with
 | ok a w=>rw[hm] at this;simp at this
 | halt a w=>rw[hm] at this;simp[Result.andThen] at this
theorem rQ {o:Oper}{ρ:Operand->Value}(hR:Rel P f H w)(h:kL P o env H=some (.val v H'))
 (hρ:∀ x∈o.op.operands,zE0 P f (env.val x) (ρ x)):sS P f H w v H' ((execOp ρ o).run P w):=by
 obtain⟨v2,he,hp,hs,hv⟩:=qHM h;cases he
 have heq:execOp ρ o=execOp env.val o:=execOp_congr o (pJ hs) fun x hx=>by
  have hx':x∈o.op.operands.toList:=by simpa using hx
  have:=xR.1 hp (env.val x) (by rw[xD];exact zR2 hx');exact (hρ x hx).plain this
 rw[heq,w9 _ hs w];exact⟨.value v,v,w,f,rfl,.inl rfl,hR,.refl _ _ _,hv f,.refl _ _⟩
end Go.Idl
namespace Go.Idl
variable {P:Program}
variable {a:Option Addr}{b:Bool}{c l:Nat}{e t:TypeId}{f:Inj}{k:IntKind}{op:BinOp}{v v' x x' y y':Value}
theorem qSO {a b:Int}(h:dU op k a b=some v)(w:World):(binOp op t (.int k a) (.int k b)).run P w=.ok v w:=by
 unfold dU at h
 cases op <;> simp only[zOP,reduceCtorEq] at h <;>
  first
  | (subst h;simp[binOp,Op.intArith,Op.intCmp])
  | (split at h
     ·cases h
     ·rename_i h0;cases h;simp[binOp,Op.intDiv,h0])
theorem qA5 {x y:Operand}{k':IntKind}{a b:Int}(w:World):(eqGuard op t x y (.int k a) (.int k' b)).run P w=.ok () w:=by
 unfold eqGuard;cases op <;> simp
theorem qTJ {a b:Int}(h:dU op k a b=some v):yV v=true:=by
 unfold dU at h
 cases op <;> simp only[zOP,reduceCtorEq] at h <;>
  first
  | (subst h;rfl)
  | (split at h
     ·cases h
     ·cases h;rfl)
def qYZ:Value->Bool
 | .pointer _ | .slice _ _ _ | .map _ | .nilFunc | .func _ _ _=>true
 | _=>false
theorem bF {x y:Operand}{a b:Value}(h:qYZ a=true)(w:World):(eqGuard op t x y a b).run P w=.ok () w:=by
 unfold eqGuard;cases op <;> cases a <;> simp[qYZ] at h <;> simp
theorem binOp_eql {a b:Value}(h:qYZ a=true):binOp .eql t a b=(do pure (.bool (<- Op.equal t a b))):=by
 cases a <;> simp[qYZ] at h <;> cases b <;> rfl
theorem binOp_neq {a b:Value}(h:qYZ a=true):binOp .neq t a b=(do pure (.bool (!(<- Op.equal t a b)))):=by
 cases a <;> simp[qYZ] at h <;> cases b <;> rfl
theorem zE0.zHR (h:zE0 P f (.pointer a) v'):∃ a',v'=.pointer a'∧a'.isNone=a.isNone:=by
 cases h with
 | base _ hp=>exact⟨_,rfl,rfl⟩
 | ptr h=>exact⟨_,rfl,rfl⟩
theorem zE0.zIA (h:zE0 P f (.slice a l c) v'):∃ a' c',v'=.slice a' l c'∧a'.isNone=a.isNone:=by
 cases h with
 | base _ hp=>exact⟨_,_,rfl,rfl⟩
 | sl h=>exact⟨_,_,rfl,rfl⟩
 | room h _ _=>exact⟨_,_,rfl,rfl⟩
 | zFU h _ _=>exact⟨_,_,rfl,rfl⟩
 | gh h _=>exact⟨_,_,rfl,rfl⟩
theorem zE0.zHS {a:Option Nat}(h:zE0 P f (.map a) v'):∃ a',v'=.map a'∧a'.isNone=a.isNone:=by
 cases h with
 | base _ hp=>exact⟨_,rfl,rfl⟩
 | map h=>exact⟨_,rfl,rfl⟩
theorem q0J (d:Nat)(hu:P.underlying t=some (.pointer e))(a c:Option Addr)(h:a=none∨c=none)(w:World) :
 (Op.equalIn (d+1) t (.pointer a) (.pointer c)).run P w=.ok (a.isNone&&c.isNone) w:=by
 cases a <;> cases c <;> simp at h <;> simp[Op.equalIn,run_underlying hu]
theorem qRM (d:Nat)(hu:P.underlying t=some (.slice e))(a c:Option Addr)(l1 l2 c1 c2:Nat)(h:a=none∨c=none)(w:World) :
 (Op.equalIn (d+1) t (.slice a l1 c1) (.slice c l2 c2)).run P w=.ok (a.isNone&&c.isNone) w:=by
 cases a <;> cases c <;> simp at h <;> simp[Op.equalIn,run_underlying hu]
theorem q2U {k:TypeId}(d:Nat)(hu:P.underlying t=some (.map k e))(a c:Option Nat)(h:a=none∨c=none)(w:World) :
 (Op.equalIn (d+1) t (.map a) (.map c)).run P w=.ok (a.isNone&&c.isNone) w:=by
 cases a <;> cases c <;> simp at h <;> simp[Op.equalIn,run_underlying hu]
def mP:Value->Bool
 | .nilFunc | .func _ _ _=>true
 | _=>false
def jQ:Value->Bool
 | .nilFunc=>true
 | _=>false
theorem qLD (d:Nat){p r:Array TypeId}{va:Bool}(hu:P.underlying t=some (.func p r va))(hx:mP x=true)(hy:mP y=true)
 (h:jQ x=true∨jQ y=true) (w:World):(Op.equalIn (d+1) t x y).run P w=.ok (jQ x&&jQ y) w:=by
 cases x <;> simp[mP] at hx <;> cases y <;> simp[mP] at hy <;> simp[jQ] at h <;> simp[Op.equalIn,run_underlying hu,jQ]
theorem zE0.fnV (hx:zE0 P f x x')(h:mP x=true):mP x'=true∧jQ x'=jQ x:=by
 cases hx with
 | any _=>simp[unk,mP] at h
 | undef=>simp[Go.undef,mP] at h
 | base _ _=>exact⟨h,rfl⟩
 | func _ _ _ _=>exact⟨rfl,rfl⟩
 | yield _=>exact⟨rfl,rfl⟩
 | _=>simp[mP] at h
theorem qY7 (h:uI (.pointer a) y=some b):∃ c,y=.pointer c∧(a=none∨c=none)∧b=(a.isNone&&c.isNone):=by
 cases y <;> cases a <;> simp[uI] at h
 ·subst h;exact⟨_,rfl,.inl rfl,by simp⟩
 ·rename_i c q;cases c <;> simp at h;subst h;exact⟨_,rfl,.inr rfl,by simp⟩
theorem qRI (h:uI (.slice a l c) y=some b):∃ a2 l2 c2,y=.slice a2 l2 c2∧(a=none∨a2=none)∧b=(a.isNone&&a2.isNone):=by
 cases y <;> cases a <;> simp[uI] at h
 ·subst h;exact⟨_,_,_,rfl,.inl rfl,by simp⟩
 ·rename_i c _ _ q;cases c <;> simp at h;subst h;exact⟨_,_,_,rfl,.inr rfl,by simp⟩
theorem q2A {a:Option Nat}(h:uI (.map a) y=some b):∃ c,y=.map c∧(a=none∨c=none)∧b=(a.isNone&&c.isNone):=by
 cases y <;> cases a <;> simp[uI] at h
 ·subst h;exact⟨_,rfl,.inl rfl,by simp⟩
 ·rename_i c q;cases c <;> simp at h;subst h;exact⟨_,rfl,.inr rfl,by simp⟩
theorem qYP (h:uI x y=some b)(hx:mP x=true):mP y=true∧(jQ x=true∨jQ y=true)∧b=(jQ x&&jQ y):=by
 cases x <;> simp[mP] at hx <;> cases y <;> simp[uI] at h <;> subst h <;> simp[mP,jQ]
theorem bU {α:Type}{a a':Option α}(h:a'.isNone=a.isNone)(hn:a=none):a'=none:=by subst hn;simpa using h
theorem qU5 (h:uI x y=some b)(hk:uM P t x=true)(hx:zE0 P f x x')(hy:zE0 P f y y')(w:World) :
 qYZ x'=true∧(Op.equal t x' y').run P w=.ok b w:=by
 unfold uM at hk;show qYZ x'=true∧(Op.equalIn (9999+1) t x' y').run P w=.ok b w;generalize 9999=d;split at hk
 ·rename_i e a hu;obtain⟨c,rfl,hn,rfl⟩:=qY7 h;obtain⟨a',rfl,ha⟩:=hx.zHR;obtain⟨c',rfl,hc⟩:=hy.zHR;rw[<-ha,<-hc];exact⟨rfl,q0J d hu _ _ (hn.imp (bU ha) (bU hc)) w⟩
 ·rename_i e a l1 c1 hu;obtain⟨c,l2,c2,rfl,hn,rfl⟩:=qRI h;obtain⟨a',q1,rfl,ha⟩:=hx.zIA;obtain⟨c',q2,rfl,hc⟩:=hy.zIA;rw[<-ha,<-hc];exact⟨rfl,qRM d hu _ _ _ _ _ _ (hn.imp (bU ha) (bU hc)) w⟩
 ·rename_i k e a hu;obtain⟨c,rfl,hn,rfl⟩:=q2A h;obtain⟨a',rfl,ha⟩:=hx.zHS;obtain⟨c',rfl,hc⟩:=hy.zHS;rw[<-ha,<-hc];exact⟨rfl,q2U d hu _ _ (hn.imp (bU ha) (bU hc)) w⟩
 ·rename_i p r va hu;obtain⟨h1,h2,rfl⟩:=qYP h rfl;obtain⟨g1,g2⟩:=hx.fnV rfl;obtain⟨k1,k2⟩:=hy.fnV h1;rw[<-g2,<-k2];refine⟨?_,qLD d hu g1 k1 (by rw[g2,k2];exact h2) w⟩;cases x' <;> simp[mP] at g1 <;> rfl
 ·rename_i p r va fn a1 a2 hu;obtain⟨h1,h2,rfl⟩:=qYP h rfl;obtain⟨g1,g2⟩:=hx.fnV rfl;obtain⟨k1,k2⟩:=hy.fnV h1;rw[<-g2,<-k2];refine⟨?_,qLD d hu g1 k1 (by rw[g2,k2];exact h2) w⟩;cases x' <;> simp[mP] at g1 <;> rfl
 ·cases hk
theorem qIA {n:Nat}(d:Nat)(hu:P.underlying t=some (.pointer e))(hs:szT P e=some n)(hn:n≠0)(a b:Addr)(h:a.block=b.block)(w:World) :
 (Op.equalIn (d+1) t (.pointer (some a)) (.pointer (some b))).run P w=.ok (a==b) w:=by
 simp[Op.equalIn,run_underlying hu,zV hs,hn,sameAddr,h]
theorem qTD (h:qS7 P t x y=some b)(hx:zE0 P f x x')(hy:zE0 P f y y')(w:World) :
 qYZ x'=true∧(Op.equal t x' y').run P w=.ok b w:=by
 unfold qS7 at h;split at h
 ·rename_i a c;split at h
  ·rename_i el hu;split at h
   ·rename_i n hs;split at h
    ·rename_i hc;simp only[zOG,bne_iff_ne,ne_eq,beq_iff_eq,Option.isNone_iff_eq_none] at hc;obtain⟨⟨⟨hn,hb⟩,h1⟩,h2⟩:=hc;obtain⟨ab,ao,as⟩:=a;obtain⟨cb,co,cs⟩:=c;simp only at hb h1 h2;subst hb h1 h2;obtain⟨e1,he1,rfl⟩:=hx.zFW;obtain⟨e2,he2,rfl⟩:=hy.zFW;rw[he1] at he2;cases he2;refine⟨rfl,?_⟩;have:=qIA (P:=P) 9999 hu hs hn ⟨e1.r,ao+e1.shift,none⟩ ⟨e1.r,co+e1.shift,none⟩ rfl w;rw[show Op.equal t (Value.pointer (some ⟨e1.r,ao+e1.shift,none⟩)) (Value.pointer (some ⟨e1.r,co+e1.shift,none⟩))=Op.equalIn (9999+1) t (.pointer (some ⟨e1.r,ao+e1.shift,none⟩)) (.pointer (some ⟨e1.r,co+e1.shift,none⟩)) from rfl,this];simp only[zOP] at h;subst h
     congr 1
     rw[Bool.eq_iff_iff];simp
    ·cases h
   ·cases h
  ·cases h
 ·cases h
theorem qDZ (h:eG P t x y=some b)(hx:zE0 P f x x')(hy:zE0 P f y y')(w:World) :
 qYZ x'=true∧(Op.equal t x' y').run P w=.ok b w:=by
 unfold eG at h;split at h
 ·rename_i b' hb
  cases hk:uM P t x with
  | false=>rw[hk] at h;cases h
  | true=>rw[hk] at h;cases h;exact qU5 hb hk hx hy w
 ·exact qTD h hx hy w
theorem qVQ {H H':IH}{w:World}{o:Oper}{env:Env}{ρ:Operand->Value}{x y:Operand}{u:TypeId}(hR:Rel P f H w)(ho:o.op=.binOp op t x y u)
 (h:yT P o op t (env.val x) (env.val y) env H=some (.val v H')) (hρ:∀ x∈o.op.operands,zE0 P f (env.val x) (ρ x)):sS P f H w v H' ((execOp ρ o).run P w):=by
 have hx:zE0 P f (env.val x) (ρ x):=hρ x (by rw[ho];simp[Op.operands]);have hy:zE0 P f (env.val y) (ρ y):=hρ y (by rw[ho];simp[Op.operands]);have zHT:execOp ρ o=(do pure (.value (<- (do eqGuard op t x y (ρ x) (ρ y);binOp op t (ρ x) (ρ y))))):=by unfold execOp;rw[ho]
 have fin:∀ (v':Value),(eqGuard op t x y (ρ x) (ρ y)).run P w=.ok () w->(binOp op t (ρ x) (ρ y)).run P w=.ok v' w->zE0 P f v v'->H'=H->sS P f H w v H' ((execOp ρ o).run P w):=by
  intro v' h1 h2 h3 h4;subst h4;rw[zHT];exact⟨.value v',v',w,f,by simp[h1,h2],.inl rfl,hR,.refl _ _ _,h3,.refl _ _⟩
 have nil:zFE P o op t (env.val x) (env.val y) env H=some (.val v H')->sS P f H w v H' ((execOp ρ o).run P w):=by
  intro h;unfold zFE at h;split at h
  ·split at h
   ·rename_i b hb;obtain⟨rfl,rfl⟩:=val_inj h;obtain⟨h1,h2⟩:=qDZ hb hx hy w;exact fin _ (bF h1 w) (by rw[binOp_eql h1];simp[h2]) (.base _ rfl) rfl
   ·exact rQ hR h hρ
  ·split at h
   ·rename_i b hb;obtain⟨rfl,rfl⟩:=val_inj h;obtain⟨h1,h2⟩:=qDZ hb hx hy w;exact fin _ (bF h1 w) (by rw[binOp_neq h1];simp[h2]) (.base _ rfl) rfl
   ·exact rQ hR h hρ
  ·exact rQ hR h hρ
 unfold yT at h;split at h
 ·rename_i k a hxa;split at h
  ·rename_i k' b hyb
   have ex:env.val x=.int k a:=by
    cases hv:env.val x <;> rw[hv] at hxa <;> simp[asI] at hxa;rw[hxa.1,hxa.2]
   have ey:env.val y=.int k' b:=by
    cases hv:env.val y <;> rw[hv] at hyb <;> simp[asI] at hyb;rw[hyb.1,hyb.2]
   unfold zFR at h
   cases hkk:Nat.beq (q3U k) (q3U k') with
   | false=>rw[hkk] at h;exact rQ hR h hρ
   | true =>
     rw[hkk] at h;have:=q2Q hkk;subst this
     cases hib:dU op k a b with
     | none=>rw[hib] at h;exact rQ hR h hρ
     | some v2 =>
       rw[hib] at h;obtain⟨rfl,rfl⟩:=val_inj h;have hx':ρ x=.int k a:=by rw[ex] at hx;exact hx.int
       have hy':ρ y=.int k b:=by rw[ey] at hy;exact hy.int
       exact fin _ (by rw[hx',hy'];exact qA5 w) (by rw[hx',hy'];exact qSO hib w) (.base _ (qTJ hib)) rfl
  ·exact nil h
 ·exact nil h
end Go.Idl
namespace Go.Idl
variable {P:Program}
variable {H H':IH}{as as':List Value}{c l:Nat}{f:Inj}{t:TypeId}{v x x':Value}{w:World}
theorem qDY {r o:Nat}{c:Array Value}{el:TypeId}{fz:Nat×Nat}(h:w.heap[r]?=some (.cells c el fz)):(Conv.seenAt ⟨r,o,none⟩).run P w=.ok ⟨r,o,none⟩ w:=by
 simp[Conv.seenAt,viewAt,World.shape?,h]
theorem qNH {src dst:TypeId}(hR:Rel P f H w)(h:qG0 P src dst x H=some v)(hx:zE0 P f x x') :
 Post P f H w v H ((convert src dst x').run P w):=by
 unfold qG0 at h;split at h
 ·rename_i b o;obtain⟨e,he,rfl⟩:=hx.zFW;split at h
  ·rename_i c el fz hg;obtain⟨c',el',fz',hr,hN,hsz,hcv,hfr,hex⟩:=hR.obj b e _ he hg;split at h
   ·rename_i t hs hd;split at h
    ·rename_i n hn;split at h
     ·rename_i hc;simp only[zOG,bne_iff_ne,ne_eq,decide_eq_true_eq] at hc;cases h;refine .same hR (v':=.pointer (some ⟨e.r,o+e.shift,none⟩)) ?_ (.ptr he);have hlt:¬ (c'.size<=o+e.shift):=by omega
      simp[convert,run_underlying hs,run_underlying hd,Conv.unsafePointer,qDY hr,cellsIn,World.shape?,hr,zV hn,hc.1,hlt]
     ·cases h
    ·cases h
   ·rename_i u hs hd;split at h
    ·rename_i n hn;split at h
     ·rename_i hc;simp only[zOG,bne_iff_ne,ne_eq,beq_iff_eq] at hc;obtain⟨⟨hn0,hfz⟩,hl⟩:=hc;cases h;subst hfz;obtain⟨hsh,hcs⟩:=hex rfl;obtain⟨_,hel,_⟩:=hfr rfl;subst hel;refine .same hR (v':=.pointer (some ⟨e.r,o+e.shift,none⟩)) ?_ (.ptr he);rw[hsh,zQ3];rw[hcs] at hl;simp[convert,run_underlying hs,run_underlying hd,Conv.unsafePointer,qDY hr,zV hn,hn0,variablesAt,World.shape?,hr,hl]
     ·cases h
    ·cases h
   ·cases h
  ·cases h
 ·cases h
theorem run_loadBytes (r:Nat):∀ (l:List Value) (bs:List UInt8) (o:Nat) (acc:ByteArray) (w:World),zR l=some bs ->
 (∀ j v,l[j]?=some v->w.cell? ⟨r,o+j,none⟩=some v)->(loadBytes ⟨r,o,none⟩ acc l.length).run P w=.ok ⟨acc.data++bs.toArray⟩ w
 | [],bs,o,acc,w,h,_=>by
   simp[zR] at h;subst h;simp[loadBytes]
 | v::l,bs,o,acc,w,h,hc=>by
   cases v <;> first | (simp[zR] at h;done) | skip
   rename_i k n
   cases k <;> first | (simp[zR] at h;done) | skip
   simp only[zR,zOR] at h;obtain⟨bs',h1,rfl⟩:=h
   have h0:(load ⟨r,o,none⟩).run P w=.ok (.int .u8 n) w:=by
    have:=hc 0 _ rfl;simp only[zQ3] at this;simp[load,Sem.run,this]
   have:=run_loadBytes r l bs' (o+1) (acc.push (UInt8.ofNat n.toNat)) w h1 (fun j v hj=>by
    have:=hc (j+1) v (by simpa using hj)
    rwa [show o+(j+1)=o+1+j by omega] at this)
   simp only[zO4,loadBytes,Sem.run_bind,h0,Result.andThen_ok];rw[yY];show (loadBytes ⟨r,o+1,none⟩ (acc.push (n.toNat.toUInt8)) l.length).run P w=_;rw[show n.toNat.toUInt8=UInt8.ofNat n.toNat from rfl,this]
   congr 1
   show (⟨(acc.push _).data++_⟩:ByteArray)=_
   congr 1
   show (acc.data.push _)++_=_;apply zP5;simp
theorem tC {at_:Array TypeId}(hR:Rel P f H w)(h:xU P at_ as H=some (.val v H'))(ha:qE P f as as') :
 Post P f H w v H' ((Builtin.unsafeString_ at_ t as'.toArray).run P w):=by
 have zIB:IntKind.i64.max=9223372036854775807:=rfl;unfold xU at h;split at h
 ·rename_i k n hpt;obtain⟨p',r1,rfl,hp,hr1⟩:=ha.zE2;obtain⟨n',r2,rfl,hn,hr2⟩:=hr1.zE2;have:=hr2.zE5;subst this;have:=hn.int;subst this;have:=hp.plain rfl;subst this;split at h
  ·rename_i hc;obtain⟨rfl,rfl⟩:=val_inj h;have hn0:n=0:=by simpa using (show n=0∧_ by simpa using hc).1
   subst hn0;refine .same hR (v':=.string .empty) ?_ (.base _ rfl);show Sem.run P (Bind.bind (asInt (.int k 0)) _) w=_;simp[asInt,asIntOf,hpt,zIB]
  ·cases h
 ·rename_i b o k n hpt;obtain⟨p',r1,rfl,hp,hr1⟩:=ha.zE2;obtain⟨n',r2,rfl,hn,hr2⟩:=hr1.zE2;have:=hr2.zE5;subst this;have:=hn.int;subst this;obtain⟨e,he,rfl⟩:=hp.zFW;split at h
  ·rename_i u hu;split at h
   ·rename_i hn0;obtain⟨rfl,rfl⟩:=val_inj h;subst hn0;refine .same hR (v':=.string .empty) ?_ (.base _ rfl);show Sem.run P (Bind.bind (asInt (.int k 0)) _) w=_;simp[asInt,asIntOf,hpt,zIB]
   ·rename_i hn0;split at h
    ·rename_i hnb;simp only[zOG,decide_eq_true_eq] at hnb;split at h
     ·rename_i c el fz hg;split at h
      ·rename_i hc;simp only[zOG,beq_iff_eq,decide_eq_true_eq] at hc;obtain⟨⟨⟨hfz,hcell⟩,zI6⟩,hbase⟩:=hc;split at h
       ·rename_i bs hbs;obtain⟨rfl,rfl⟩:=val_inj h;simp only[zQI] at hbs;obtain⟨l,hl,hbytes⟩:=hbs;obtain⟨c',el',fz',hr,hN,hsz,hcv,hfr,hex⟩:=hR.obj b e _ he hg;obtain⟨hro,hel,hnf⟩:=hfr hfz;subst hel;obtain⟨l',q1,q2,q3⟩:=aU hR he hl;obtain⟨c2,el2,fz2,hg2,hle,_⟩:=oQ hl;rw[hg] at hg2;cases hg2
        -- bytes are plain
        have hpl:∀ (l:List Value) bs,zR l=some bs->zQ l=true:=by
         intro l
         induction l with
         | nil=>intro _ _;rfl
         | cons v l ih =>
           intro bs hb
           cases v <;> first | (simp[zR] at hb;done) | skip
           rename_i k2 n2
           cases k2 <;> first | (simp[zR] at hb;done) | skip
           simp only[zR,zOR] at hb;obtain⟨bs',h1,_⟩:=hb;rw[mF,ih bs' h1];rfl
        have hll:l'=l:=q1.plain (hpl l bs hbytes);subst hll;have hb0:=run_loadBytes (P:=P) e.r l' bs (o+e.shift) .empty w hbytes (fun j v hj=>by have:=q3 j v hj;rwa [yY] at this);rw[q2] at hb0
        have hlies:liesAt P P.depth el' (c'.size / P.cellsOf el') (o+e.shift) u n.toNat=true:=by
         rw[hcell]
         cases hd:P.depth with
         | zero=>rw[hd] at zI6;simp[sameLayout] at zI6
         | succ d =>
           unfold liesAt
           have:rowAt P (sameLayout P P.depth · u) P.depth el' (c'.size / 1) (o+e.shift) n.toNat=true:=by
            rw[hd];unfold rowAt;rw[hcell];rw[hd] at zI6;have:o+e.shift+n.toNat<=c'.size:=by omega
            simp[zI6,Nat.mod_one,this]
           rw[zPL];left;exact this
        have hnn:n.toNat≠0:=by omega
        have hlt:e.r < w.heap.size:=hR.bound b e he
        have hmod:∃ fz2,∀ x:Nat,(w.freeze ⟨e.r,o+e.shift,none⟩ n.toNat).heap[x]?=if x=e.r then some (.cells c' el' fz2) else w.heap[x]?:=by
         obtain⟨lo,hi⟩:=fz';refine⟨if lo==hi then (o+e.shift,o+e.shift+n.toNat) else (min lo (o+e.shift),max hi (o+e.shift+n.toNat)),fun x=>?_⟩;simp only[World.freeze,hnn,if_false];rw[Array.getElem?_modify];by_cases hx:x=e.r
         ·subst hx;simp[hr]
         ·rw[if_neg (Ne.symm hx),if_neg hx]
        obtain⟨fz2,hmod⟩:=hmod
        obtain⟨g1,g2,g3⟩:=Rel.put (o1:=.cells c el' (0,1)) (o1':=.cells c' el' fz2) (w':=w.freeze ⟨e.r,o+e.shift,none⟩ n.toNat) hR he hg rfl hro
         ⟨c',el',fz2,rfl,hN,hsz,hcv,fun hx=>by simp[aH] at hx,fun hx=>by simp at hx⟩ hmod (by simp[World.freeze,hnn]) (by unfold World.freeze;split <;> exact⟨rfl,rfl,rfl⟩)
        refine⟨_,_,f,?_,g1,g2,.base _ rfl,g3⟩;have hmax:¬ (9223372036854775807 < n):=by omega
        have hneg:¬ (n < 0):=by omega
        show Sem.run P (Bind.bind (asInt (.int k n)) _) w=_;simp[asInt,asIntOf,hpt,hneg,zIB,hmax,hn0,elemOf,run_underlying hu,variablesAt,World.shape?,hr,hlies,hb0,freeze,Sem.run]
       ·cases h
      ·cases h
     ·cases h
    ·cases h
  ·cases h
 ·cases h
theorem qHD {a:Addr}(ts:Array TypeId)(t:TypeId)(hR:Rel P f H w)(h:x=.slice (some a) l c)(hc:c≠0)(hx:zE0 P f x x') :
 Post P f H w (.pointer (some ⟨a.block,a.off,none⟩)) H ((Builtin.unsafeSliceData_ ts t #[x']).run P w):=by
 subst h
 cases hx with
 | base _ hp=>have hp':false=true:=hp;cases hp'
 | sl hb =>
   refine .same hR (v':=.pointer (some ⟨_,_,none⟩)) ?_ (.ptr hb);show Sem.run P (ite (c≠0) (pure (Value.pointer (some _)):Sem Value) _) w=_;rw[if_pos hc];simp
 | @room _ _ _ _ _ cap' e hb hcc hN =>
   refine .same hR (v':=.pointer (some ⟨_,_,none⟩)) ?_ (.ptr hb);show Sem.run P (ite (cap'≠0) (pure (Value.pointer (some _)):Sem Value) _) w=_;rw[if_pos (by omega)];simp
 | zFU _ _ _=>exact absurd rfl hc
 | gh _ _=>exact absurd rfl hc
theorem qJN (ts:Array TypeId)(t:TypeId)(hR:Rel P f H w)(hx:zE0 P f (.slice none l c) x') :
 Post P f H w (.pointer none) H ((Builtin.unsafeSliceData_ ts t #[x']).run P w):=by
 have:=hx.zGC;subst this;exact .same hR (v':=.pointer none) (by show Sem.run P (pure (Value.pointer none)) w=_;simp) (.base _ rfl)
theorem zE0.zG4 {r:Nat}{v':Value}(h:zE0 P f (.map (some r)) v'):∃ e,f r=some e∧v'=.map (some e.r):=by
 cases h with
 | base _ hp=>have hp':false=true:=hp;cases hp'
 | map h=>exact⟨_,h,rfl⟩
theorem rF {r:Nat}{o:Obj}(h:w.heap[r]?=some o)(hn:∀ c e z,o≠.cells c e z):(getObj r).run P w=.ok o w:=by
 unfold getObj Sem.run;rw[h]
 cases o <;> first | (exact absurd rfl (hn _ _ _)) | rfl
theorem q6Q {ts:Array TypeId}(hR:Rel P f H w)(h:nL P ts as H=some (.val v H'))(ha:qE P f as as') :
 Post P f H w v H' ((Builtin.len_ ts t as'.toArray).run P w):=by
 unfold nL at h;split at h
 ·rename_i el a n c hb;obtain⟨rfl,rfl⟩:=val_inj h;obtain⟨x',r,rfl,hx,hr⟩:=ha.zE2;have:=hr.zE5;subst this;obtain⟨a',c',rfl⟩:=hx.zF8;obtain⟨t0,ht,hu⟩:=zQI.1 hb;exact .same hR (v':=goInt n) (by simp[Builtin.len_,ht,run_underlying hu]) (.base _ rfl)
 ·rename_i k el r hb;split at h
  ·rename_i es clk hg;obtain⟨rfl,rfl⟩:=val_inj h;obtain⟨x',q,rfl,hx,hr⟩:=ha.zE2;have:=hr.zE5;subst this;obtain⟨e,he,rfl⟩:=hx.zG4;obtain⟨_,es',h1,h2,_⟩:=hR.obj r e _ he hg;obtain⟨t0,ht,hu⟩:=zQI.1 hb;have hob:=rF (P:=P) h1 (fun _ _ _ hx=>by cases hx);exact .same hR (v':=goInt es.size) (by simp[Builtin.len_,ht,run_underlying hu,hob,h2]) (.base _ rfl)
  ·cases h
 ·rename_i n el x hb;obtain⟨rfl,rfl⟩:=val_inj h;obtain⟨x',q,rfl,hx,hr⟩:=ha.zE2;have:=hr.zE5;subst this;obtain⟨t0,ht,hu⟩:=zQI.1 hb;exact .same hR (v':=goInt n) (by simp[Builtin.len_,ht,run_underlying hu]) (.base _ rfl)
 ·cases h
end Go.Idl
namespace Go.Idl
variable {P:Program}
variable {H:IH}{clk:Nat}{es es':Array MapEntry}{f:Inj}{k k' x x':Value}{kt t:TypeId}{l l' m:List MapEntry}{v:MapEntry}{w:World}
theorem kF {α β:Type}(g:α->Sem β):∀ (s:Sem α),z8 P (s.bind g)=(z8 P s).bind fun a=>z8 P (g a)
 | .pure a=>rfl
 | .load _ _ _=>rfl
 | .store _ _ _ _=>rfl
 | .new _ _=>rfl
 | .shape _ _=>rfl
 | .freeze _ _ _=>rfl
 | .frozen _ _=>rfl
 | .getObj _ _=>rfl
 | .setObj _ _ _=>rfl
 | .choose q k=>by
   show cond q.forced (z8 P ((k 0).bind g)) none=(cond q.forced (z8 P (k 0)) none).bind _;cases q.forced
   ·rfl
   ·exact kF g (k 0)
 | .sys _ _=>rfl
 | .program k=>kF g (k P)
 | .mark _ k=>kF g k
 | .halt _=>rfl
def sN (P:Program)(f:Inj)(l l':List MapEntry):Prop:=l.length=l'.length∧∀ (i:Nat) x x',l[i]?=some x->l'[i]?=some x'->x'.key=x.key∧x'.born=x.born∧zE0 P f x.val x'.val
theorem sN.nil:sN P f [] []:=⟨rfl,fun i v v' h=>by simp at h⟩
theorem sN.zE2 (h:sN P f (v::l) m):∃ v' l',m=v'::l'∧(v'.key=v.key∧v'.born=v.born∧zE0 P f v.val v'.val)∧sN P f l l':=by
 cases m with
 | nil=>simp[sN] at h
 | cons v' l'=>exact⟨v',l',rfl,h.2 0 v v' rfl rfl,by have:=h.1;simpa using this,fun i u u' hu hu'=>h.2 (i+1) u u' (by simpa using hu) (by simpa using hu')⟩
theorem sN.zE5 (h:sN P f [] m):m=[]:=by
 cases m with
 | nil=>rfl
 | cons a b=>simp[sN] at h
theorem sN.cons {v':MapEntry}(h:v'.key=v.key∧v'.born=v.born∧zE0 P f v.val v'.val)(t:sN P f l l'):sN P f (v::l) (v'::l') :=
 ⟨by simp[t.1],fun i u u' hu hu'=>by
   cases i with
   | zero=>simp at hu hu';subst hu hu';exact h
   | succ i=>exact t.2 i u u' (by simpa using hu) (by simpa using hu')⟩
theorem sN.get (h:sN P f l l'){i:Nat}(hv:l[i]?=some v):∃ v',l'[i]?=some v'∧v'.key=v.key∧v'.born=v.born∧zE0 P f v.val v'.val:=by
 have hlt:i < l.length:=(zOO.1 hv).1;have hlt':i < l'.length:=h.1 ▸ hlt;exact⟨l'[i],zOL hlt',h.2 i v _ hv (zOL hlt')⟩
theorem qBH {f:Inj}{kd:TypeDesc}{k:Value}:∀ (l l':List MapEntry) (i:Nat),sN P f l l' ->
 (Instr.findNow kd k l' i).map (fun r=>r.map (·.1))=(Instr.findNow kd k l i).map (fun r=>r.map (·.1)) ∧
 ∀ j v,Instr.findNow kd k l' i=some (some (j,v))->i<=j∧∃ e,l'[j - i]?=some e∧v=e.val
 | [],l',i,h=>by rw[h.zE5];simp[Instr.findNow]
 | e::l,l',i,h=>by
   obtain⟨e',t',rfl,he,ht⟩:=h.zE2;simp only[Instr.findNow,he.1]
   cases Instr.sameNow kd k e.key with
   | none=>simp
   | some b =>
     cases b with
     | true=>simp
     | false =>
       simp only;obtain⟨h1,h2⟩:=qBH l t' (i+1) ht;refine⟨h1,fun j v hj=>?_⟩;obtain⟨hij,e2,h3,h4⟩:=h2 j v hj;refine⟨by omega,e2,?_,h4⟩;rw[show j - i=(j - (i+1))+1 by omega];simpa using h3
theorem dW {f:Inj}{kt:TypeId}{k:Value}:∀ (l l':List MapEntry) (i:Nat) (r:Option (Nat×Value)),sN P f l l'->z8 P (Instr.findAsking kt k l i)=some r ->
 ∃ r',z8 P (Instr.findAsking kt k l' i)=some r'∧r'.map (·.1)=r.map (·.1)∧∀ j v,r'=some (j,v)->i<=j∧∃ e,l'[j - i]?=some e∧v=e.val
 | [],l',i,r,h,hr=>by
   rw[h.zE5];have:some none=some r:=hr;cases this;exact⟨none,rfl,rfl,fun j v h=>by cases h⟩
 | e::l,l',i,r,h,hr=>by
   obtain⟨e',t',rfl,he,ht⟩:=h.zE2;have hr':z8 P ((Op.equal kt k e.key).bind fun b=>if b=true then pure (some (i,e.val)) else Instr.findAsking kt k l (i+1))=some r:=hr;rw[kF] at hr'
   have goal:∀ x,z8 P (Instr.findAsking kt k (e'::t') i)=x ↔ (z8 P (Op.equal kt k e.key)).bind (fun b=>z8 P (if b=true then pure (some (i,e'.val)) else Instr.findAsking kt k t' (i+1)))=x:=by
    intro x;rw[<-kF,<-he.1];exact Iff.rfl
   cases hb:z8 P (Op.equal kt k e.key) with
   | none=>rw[hb] at hr';cases hr'
   | some b =>
     rw[hb] at hr'
     cases b with
     | true =>
       have:some (some (i,e.val))=some r:=hr';cases this;refine⟨some (i,e'.val),(goal _).2 (by rw[hb];rfl),rfl,fun j v hj=>?_⟩;cases hj;exact⟨zOI _,e',by simp,rfl⟩
     | false =>
       have h1:z8 P (Instr.findAsking kt k l (i+1))=some r:=hr';obtain⟨r',h2,h3,h4⟩:=dW l t' (i+1) r ht h1;refine⟨r',(goal _).2 (by rw[hb];exact h2),h3,fun j v hj=>?_⟩;obtain⟨hij,e2,h5,h6⟩:=h4 j v hj;refine⟨by omega,e2,?_,h6⟩;rw[show j - i=(j - (i+1))+1 by omega];simpa using h5
theorem zZ:z8 P (underlying t)=P.underlying t:=by
 show z8 P (match P.underlying t with
  | some d=>pure d
  | none=>stuck "no such type")=_
 cases P.underlying t <;> rfl
theorem qL0 {r:Option (Nat×Value)}(h:sN P f l l')(hr:z8 P (Instr.findKey kt k l)=some r) :
 ∃ r',(∀ w,(Instr.findKey kt k l').run P w=.ok r' w)∧r'.map (·.1)=r.map (·.1)∧∀ j v,r'=some (j,v)->∃ e,l'[j]?=some e∧v=e.val:=by
 have key:∀ l,z8 P (Instr.findKey kt k l)=(P.underlying kt).bind fun kd=>(match Instr.findNow kd k l 0 with
  | some r=>some r
  | none=>z8 P (Instr.findAsking kt k l)):=by
  intro l;show z8 P ((underlying kt).bind _)=_;rw[kF,zZ]
  congr 1
  funext kd
  cases Instr.findNow kd k l 0 <;> rfl
 rw[key] at hr;obtain⟨kd,hu,hr⟩:=zQI.1 hr;obtain⟨h1,h2⟩:=qBH (kd:=kd) (k:=k) l l' 0 h;have fin:∀ r',z8 P (Instr.findKey kt k l')=some r'->∀ w,(Instr.findKey kt k l').run P w=.ok r' w:=fun r' hr'=>w9 _ hr'
 cases hn:Instr.findNow kd k l 0 with
 | some r0 =>
   rw[hn] at hr h1;simp only[zOP] at hr;subst hr
   cases hn':Instr.findNow kd k l' 0 with
   | none=>rw[hn'] at h1;cases h1
   | some r' =>
     rw[hn'] at h1;simp only[zOW,zOP] at h1;refine⟨r',fin r' (by rw[key,hu,zO2,hn']),h1,fun j v hj=>?_⟩;subst hj;obtain⟨_,e,h3,h4⟩:=h2 j v hn';exact⟨e,by simpa using h3,h4⟩
 | none =>
   rw[hn] at hr h1
   have hn':Instr.findNow kd k l' 0=none:=by
    cases hx:Instr.findNow kd k l' 0 with
    | none=>rfl
    | some y=>rw[hx] at h1;cases h1
   obtain⟨r',g1,g2,g3⟩:=dW l l' 0 r h hr;refine⟨r',fin r' (by rw[key,hu,zO2,hn'];exact g1),g2,fun j v hj=>?_⟩;obtain⟨_,e,h3,h4⟩:=g3 j v hj;exact⟨e,by simpa using h3,h4⟩
theorem qAH {r:Option Nat}(h:sN P f es.toList es'.toList)(hk:zE0 P f k k')(hr:eY P kt k es.toList=some r) :
 k'=k∧(∀ w,(Instr.checkKey es'.isEmpty 10000 kt k).run P w=.ok () w)∧(∀ w,(Instr.checkKey false 10000 kt k).run P w=.ok () w) ∧
 ∃ r',(∀ w,(Instr.findKey kt k es'.toList).run P w=.ok r' w)∧r'.map (·.1)=r∧∀ j v,r'=some (j,v)->∃ e,es'[j]?=some e∧v=e.val:=by
 unfold eY at hr;split at hr
 ·rename_i hp;simp only[zOG] at hp;split at hr
  ·rename_i u1 u2 r0 h1 h2 h3;cases hr
   have hem:es'.isEmpty=es.toList.isEmpty:=by
    have:=h.1
    cases hx:es.toList with
    | nil=>rw[hx] at this;simp at this;simp;exact zRR this.symm
    | cons a b=>rw[hx] at this;simp at this;simp;intro hc;rw[hc] at this;simp at this
   obtain⟨r',g1,g2,g3⟩:=qL0 h h3;refine⟨hk.plain hp.1,by rw[hem];exact w9 _ h1,w9 _ h2,r',g1,g2,fun j v hj=>?_⟩;obtain⟨e,q1,q2⟩:=g3 j v hj;exact⟨e,by simpa using q1,q2⟩
  ·cases hr
 ·cases hr
theorem qXM {r:Nat}{e:Emb}(hR:Rel P f H w)(he:f r=some e)(hg:H.get r=some (.map es clk)) :
 e.ro=false∧∃ es',w.heap[e.r]?=some (.map es' clk)∧sN P f es.toList es'.toList:=by
 obtain⟨h0,es',h1,h2,h3⟩:=hR.obj r e _ he hg
 exact⟨h0,es',h1,by simpa using h2.symm,fun i x x' hx hx'=>by
  obtain⟨x2,g1,g2⟩:=h3 i x (by simpa using hx);rw[show es'[i]?=some x' by simpa using hx'] at g1
  cases g1;exact g2⟩
theorem qR9 {v:Value}{ok:Bool}(hR:Rel P f H w)(h:qC0 P t x k ok H=some v)(hx:zE0 P f x x')(hk:zE0 P f k k') :
 Post P f H w v H ((Instr.lookup t x' k' ok).run P w):=by
 unfold qC0 at h;split at h
 ·rename_i kt et r hu
  ·obtain⟨e,he,rfl⟩:=hx.zG4;split at h
   ·rename_i es clk hg;obtain⟨_,es',h1,h2⟩:=qXM hR he hg;have hob:=rF (P:=P) h1 (fun _ _ _ hx=>by cases hx);split at h
    ·rename_i i hf;obtain⟨rfl,c1,_,r',c2,c3,c4⟩:=qAH h2 hk hf;split at h
     ·rename_i en hen;cases h;obtain⟨⟨j,u⟩,rfl,hj⟩:=zOR.1 c3;simp only at hj;subst hj;obtain⟨e2,q1,rfl⟩:=c4 j u rfl;obtain⟨e3,q3,q4,q5,q6⟩:=h2.get (i:=j) (v:=en) (by simpa using hen);rw[show es'.toList[j]?=es'[j]? by simp,q1] at q3;cases q3;refine .same hR (v':=q4H ok e2.val true) ?_ ?_
      ·cases ok <;> simp[Instr.lookup,run_underlying hu,hob,c1,c2,q4H]
      ·cases ok
       ·exact q6
       ·exact .zGB (.cons q6 (.cons (.base _ rfl) .nil))
     ·cases h
    ·rename_i hf;obtain⟨rfl,c1,_,r',c2,c3,c4⟩:=qAH h2 hk hf;split at h
     ·rename_i z hz;split at h
      ·rename_i hpl;cases h;have hr':r'=none:=by cases r' <;> simp at c3 ⊢
       subst hr';refine .same hR (v':=q4H ok z false) ?_ ?_
       ·cases ok <;> simp[Instr.lookup,run_underlying hu,hob,c1,c2,wW hz,q4H]
       ·cases ok
        ·exact .base _ hpl
        ·exact .zGB (.cons (.base _ hpl) (.cons (.base _ rfl) .nil))
      ·cases h
     ·cases h
    ·cases h
   ·cases h
 ·cases h
theorem sN.modify (h:sN P f l l')(i:Nat)(g g':MapEntry->MapEntry)
 (hg:∀ x x',(x'.key=x.key∧x'.born=x.born∧zE0 P f x.val x'.val)->((g' x').key=(g x).key∧(g' x').born=(g x).born∧zE0 P f (g x).val (g' x').val)) :
 sN P f (l.modify i g) (l'.modify i g'):=by
 refine⟨by simp[h.1],fun j x x' hx hx'=>?_⟩;rw[List.getElem?_modify] at hx hx';obtain⟨y,hy,rfl⟩:=zOR.1 hx;obtain⟨y',hy',rfl⟩:=zOR.1 hx';have:=h.2 j y y' hy hy';by_cases hij:i=j
 ·simp only[hij,if_true];exact hg y y' this
 ·simp only[hij,if_false];exact this
theorem sN.push (h:sN P f l l'){x x':MapEntry}(hx:x'.key=x.key∧x'.born=x.born∧zE0 P f x.val x'.val):sN P f (l++[x]) (l'++[x']):=by
 induction l generalizing l' with
 | nil=>rw[h.zE5];exact .cons hx .nil
 | cons v l ih=>obtain⟨v',t',rfl,hv,ht⟩:=h.zE2;exact .cons hv (ih ht)
theorem qRX {r:Nat}{o o1:Obj}(h:w.heap[r]?=some o)(hn:∀ c e z,o≠.cells c e z):(setObj r o1).run P w=.ok () (World.put w r o1):=by
 unfold setObj Sem.run;rw[h]
 cases o <;> first | (exact absurd rfl (hn _ _ _)) | rfl
theorem qHK {r:Nat}{e:Emb}{es1 zHJ:Array MapEntry}{zHA:Nat}(hR:Rel P f H w)(he:f r=some e)(hg:H.get r=some (.map es clk))
 (h0:w.heap[e.r]?=some (.map es' clk)) (h1:sN P f es1.toList zHJ.toList) (hro:e.ro=false) :
 Rel P f (H.put r (.map es1 zHA)) (World.put w e.r (.map zHJ zHA))∧Grow f H w f (H.put r (.map es1 zHA)) (World.put w e.r (.map zHJ zHA))∧Keep f H (H.put r (.map es1 zHA)):=by
 have hlt:=hR.bound r e he;refine Rel.put (o1':=.map zHJ zHA) hR he hg rfl hro ⟨hro,zHJ,rfl,by simpa using h1.1.symm,fun i x hx=>?_⟩ (fun x=>heap_put hlt) (by simp[World.put]);obtain⟨x',q1,q2⟩:=h1.get (i:=i) (v:=x) (by simpa using hx);exact⟨x',by simpa using q1,q2⟩
theorem qHF {H':IH}{v v':Value}(hR:Rel P f H w)(h:jS P t x k v H=some H')(hx:zE0 P f x x')(hk:zE0 P f k k')(hv:zE0 P f v v') :
 ∃ w',(Instr.mapUpdate t x' k' v').run P w=.ok () w'∧Rel P f H' w'∧Grow f H w f H' w'∧Keep f H H':=by
 unfold jS at h;split at h
 ·rename_i kt et r hu;obtain⟨e,he,rfl⟩:=hx.zG4;split at h
  ·rename_i es clk hg;obtain⟨hro,es',h1,h2⟩:=qXM hR he hg;have hob:=rF (P:=P) h1 (fun _ _ _ hx=>by cases hx);have hso:∀ o1,(setObj e.r o1).run P w=.ok () (World.put w e.r o1):=fun o1=>qRX (P:=P) (o1:=o1) h1 (fun _ _ _ hx=>by cases hx)
   split at h
   ·split at h
    ·rename_i i hf;obtain⟨rfl,_,c1,r',c2,c3,c4⟩:=qAH h2 hk hf;split at h
     ·rename_i en hen;split at h
      ·rename_i hsb;cases h;obtain⟨⟨j,u⟩,rfl,hj⟩:=zOR.1 c3;simp only at hj;subst hj;obtain⟨e2,q1,rfl⟩:=c4 j u rfl;obtain⟨e3,q3,q4,q5,q6⟩:=h2.get (i:=j) (v:=en) (by simpa using hen);rw[show es'.toList[j]?=es'[j]? by simp,q1] at q3;cases q3
       obtain⟨g1,g2,g3⟩:=qHK (zHA:=clk) (es1:=es.modify j fun e=>{ e with key:=k',val:=v }) (zHJ:=es'.modify j fun e=>{ e with key:=k',val:=v' }) hR he hg h1
        (by simpa [Array.toList_modify] using h2.modify j (fun e=>{ e with key:=k',val:=v }) (fun e=>{ e with key:=k',val:=v' }) (fun x x' hxx=>⟨rfl,hxx.2.1,hv⟩)) hro
       refine⟨_,?_,g1,g2,g3⟩;rw[<-q4] at hsb;simp[Instr.mapUpdate,run_underlying hu,hob,c1,c2,q1,Instr.keyThatStays,hsb,hso]
      ·cases h
     ·cases h
    ·rename_i hf;obtain⟨rfl,_,c1,r',c2,c3,c4⟩:=qAH h2 hk hf;cases h;have hr':r'=none:=by cases r' <;> simp at c3 ⊢
     subst hr'
     obtain⟨g1,g2,g3⟩:=qHK (zHA:=clk+1) (es1:=es.push { key:=k',val:=v,born:=clk }) (zHJ:=es'.push { key:=k',val:=v',born:=clk }) hR he hg h1
      (by simpa using h2.push (x:={ key:=k',val:=v,born:=clk }) (x':={ key:=k',val:=v',born:=clk }) ⟨rfl,rfl,hv⟩) hro
     refine⟨_,?_,g1,g2,g3⟩;simp[Instr.mapUpdate,run_underlying hu,hob,c1,c2,hso]
    ·cases h
   ·cases h
  ·cases h
 ·cases h
end Go.Idl
namespace Go.Idl
variable {P:Program}
theorem oI {f:Inj}{H:IH}{w:World}(hR:Rel P f H w):f H.size=none:=by
 cases hx:f H.size with
 | none=>rfl
 | some y=>have:=hR.dom _ _ hx;omega
end Go.Idl
namespace Go.Idl
variable {P:Program}
variable {H:IH}{as:List Value}{c:Call}{f:Inj}{fn:Func}{g:FuncId}{o:Oper}{ts:Array TypeId}{w:World}{ρ:Operand->Value}
theorem qGK:Extern.allNextRows.lookup "internal/abi.NoEscape" = none:=by kernel_rfl
theorem qSL:Extern.allNextRows.lookup "" = none:=by kernel_rfl
theorem tJ:Extern.allGenericRows.lookup "internal/abi.NoEscape" = none:=by kernel_rfl
theorem qC3:Extern.allTypedRows.lookup "internal/abi.NoEscape" = none:=by kernel_rfl
theorem qH3:Extern.allRows.lookup "internal/abi.NoEscape" = some Extern.AbiNoEscape.same:=by kernel_rfl
theorem qGR (hn:fn.name = "internal/abi.NoEscape")(ho:fn.origin = ""):Extern.findNext fn=none∧Extern.find fn=some Extern.AbiNoEscape.same:=by
 unfold Extern.findNext Extern.find;simp only[hn,ho,qGK,qSL,tJ,qC3,qH3];exact⟨rfl,rfl⟩
theorem aP {x:Value}(hf:P.funcs[g]?=some fn)(hb:fn.body.isSome=false)(hn:fn.name = "internal/abi.NoEscape")(ho:fn.origin = "") :
 (callFunc g #[x]).run P w=.ok (.value x) w:=by
 obtain⟨h1,h2⟩:=qGR hn ho
 have h3:fn.name ≠ "runtime.NumGoroutine" := by rw[hn];decide
 have h4:fn.body=none:=by cases hx:fn.body <;> simp[hx] at hb ⊢
 have h5:(Extern.AbiNoEscape.same #[x]).run P w=.ok x w:=rfl;unfold callFunc;simp[hf,h3,h4,h1,h2,h5]
theorem run_callFunc_enter {args:Array Value}(hf:P.funcs[g]?=some fn)(hb:fn.body.isSome=true)(hn:(fn.name != "runtime.NumGoroutine")=true) :
 (callFunc g args).run P w=.ok (.enter g args) w:=by
 have h3:fn.name ≠ "runtime.NumGoroutine" := by simpa [bne] using hn
 have h4:fn.body≠none:=by cases hx:fn.body <;> simp[hx] at hb ⊢
 unfold callFunc;simp[hf,h3,h4]
def qDW (P:Program)(f:Inj)(H:IH)(w:World)(s:zE7)(r:Result Next):Prop :=
 match s with
 | .val v H'=>sS P f H w v H' r
 | .enter g args H'=>H'=H∧∃ args',qE P f args args'∧r=.ok (.enter g args'.toArray) w
 | .round l args H'=>H'=H∧∃ e args',f l=some e∧qE P f args args'∧r=(Instr.yield e.r args'.toArray).run P w
 | .choice n k=>∃ i,i < n∧∀ v H',k i=some (v,H')->sS P f H w v H' r
theorem qE.map {f:Inj}{α:Type}(g g':α->Value):∀ (l:List α),(∀ x∈l,zE0 P f (g x) (g' x))->qE P f (l.map g) (l.map g')
 | [],_=>.nil
 | a::l,h=>.cons (h a (by simp)) (qE.map g g' l fun x hx=>h x (by simp[hx]))
theorem sS.of_run {H':IH}{v:Value}{s:Sem Value}(he:execOp ρ o=(do pure (Next.value (<- s))))(h:Post P f H w v H' (s.run P w)) :
 sS P f H w v H' ((execOp ρ o).run P w):=by rw[he];exact h.next
theorem val_append {s:zE7}(h:uV P ts as H=some s):∃ v H',s=.val v H':=by
 unfold uV wC qMS qSS at h
 repeat' split at h
 all_goals first | (cases h;exact⟨_,_,rfl⟩) | cases h
theorem qZM {s:zE7}(h:qDB P ts as H=some s):∃ v H',s=.val v H':=by
 unfold qDB uF at h
 repeat' split at h
 all_goals first | (cases h;exact⟨_,_,rfl⟩) | cases h
theorem q5R {s:zE7}(h:nL P ts as H=some s):∃ v H',s=.val v H':=by
 unfold nL at h
 repeat' split at h
 all_goals first | (cases h;exact⟨_,_,rfl⟩) | cases h
theorem tF {s:zE7}(h:xU P ts as H=some s):∃ v H',s=.val v H':=by
 unfold xU at h
 repeat' split at h
 all_goals first | (cases h;exact⟨_,_,rfl⟩) | cases h
theorem qM6 {b:Builtin}{t:TypeId}{cs:Array Bool}{as':List Value}{s:zE7}(hR:Rel P f H w)(h:yG P b c as H=some s)(ha:qE P f as as') :
 qDW P f H w s ((builtin b c.argTypes t cs as'.toArray).run P w):=by
 unfold yG at h;split at h
 ·obtain⟨v,H',rfl⟩:=val_append h;exact (qSB (t:=t) hR h ha).next
 ·obtain⟨v,H',rfl⟩:=qZM h;exact (qY9 (t:=t) hR h ha).next
 ·obtain⟨v,H',rfl⟩:=q5R h;exact (q6Q (t:=t) hR h ha).next
 ·split at h
  ·rename_i l c';cases h;obtain⟨x',r,rfl,hx,hr⟩:=ha.zE2;have:=hr.zE5;subst this;exact (qJN c.argTypes t hR hx).next
  ·rename_i a l c';split at h
   ·rename_i hc;cases h;obtain⟨x',r,rfl,hx,hr⟩:=ha.zE2;have:=hr.zE5;subst this;exact (qHD c.argTypes t hR rfl (by simpa using hc) hx).next
   ·cases h
  ·cases h
 ·obtain⟨v,H',rfl⟩:=tF h;exact (tC (t:=t) hR h ha).next
 ·cases h
theorem qZB {o:Oper}{env:Env}{s:zE7}(hR:Rel P f H w)(ho:o.op=.call c)(h:fQ P c env H=some s)
 (hρ:∀ x∈o.op.operands,zE0 P f (env.val x) (ρ x)):qDW P f H w s ((execOp ρ o).run P w):=by
 have zHT:execOp ρ o=(do let d <- resolve ρ c o.type;invoke d.target d.args):=by unfold execOp;rw[ho]
 have hargs:qE P f (kS env.val c.args.toList) (c.args.map ρ).toList:=by
  rw[xD,zQ9];refine qE.map _ _ _ fun x hx=>hρ x ?_
  rw[ho];simp only[Op.operands,Call.operands,zQU];right;simpa using hx
 unfold fQ at h;simp only at h;split at h
 ·rename_i b hb
  have:∃ cs,(execOp ρ o).run P w=(builtin b c.argTypes o.type cs (c.args.map ρ)).run P w:=by
   rw[zHT];simp only[resolve,hb,invoke,Sem.run_bind,Sem.run_pure,Result.andThen_ok];exact⟨_,rfl⟩
  obtain⟨cs,this⟩:=this;rw[this];have:=qM6 (t:=o.type) (cs:=cs) hR h hargs
  rwa [Array.toArray_toList] at this
 ·cases h
 ·rename_i fv hb;have hfv:zE0 P f (env.val fv) (ρ fv):=hρ fv (by rw[ho];simp[Op.operands,Call.operands,hb])
  have hrun:∀ fn first captured,ρ fv=.func fn first captured->(execOp ρ o).run P w=(invoke (.fn fn captured) (first++c.args.map ρ)).run P w:=by
   intro fn first captured he
   rw[zHT];simp[resolve,hb,Deferred.ofValue,he]
  split at h
  ·rename_i g first captured he
   rw[he] at hfv
   rcases hfv.zF5 with ⟨g',a',c',hg,hv,h1,h2⟩ | ⟨l,e,hg,_⟩
   ·cases hg;rw[hrun _ _ _ hv]
    have hall:qE P f (qDO first.toList (qDO (kS env.val c.args.toList) captured.toList)) (a'.toList++((c.args.map ρ).toList++c'.toList)):=by
     rw[aI,aI];exact h1.append (hargs.append h2)
    have harr:a'++Array.map ρ c.args++c'=(a'.toList++((c.args.map ρ).toList++c'.toList)).toArray:=by apply zP5;simp
    split at h
    ·rename_i fn hfn;split at h
     ·rename_i hbody;split at h
      ·rename_i hname;cases h;refine⟨rfl,_,hall,?_⟩;simp only[invoke];rw[run_callFunc_enter hfn hbody hname,harr]
      ·cases h
     ·rename_i hbody;split at h
      ·rename_i hname;simp only[zOG,beq_iff_eq] at hname;split at h
       ·rename_i v hv1;cases h;rw[hv1] at hall;obtain⟨v',r,h3,h4,h5⟩:=hall.zE2;have:=h5.zE5;subst this;refine⟨.value v',v',w,f,?_,.inl rfl,hR,.refl _ _ _,h4,.refl _ _⟩;simp only[invoke];rw[harr,h3];exact aP hfn (by simpa using hbody) hname.1 hname.2
       ·cases h
      ·cases h
    ·cases h
   ·cases hg
  ·rename_i l first captured he
   rw[he] at hfv
   rcases hfv.zF5 with ⟨g',a',c',hg,_⟩ | ⟨l',e,hg,hf1,hc1,hfl,hv⟩
   ·cases hg
   ·cases hg;split at h
    ·cases h;refine⟨rfl,e,_,hfl,hargs,?_⟩;rw[hrun _ _ _ hv,Array.empty_append,Array.toArray_toList];rfl
    ·cases h
  ·cases h
end Go.Idl
namespace Go.Idl
variable {P:Program}
variable {H H':IH}{env:Env}{f:Inj}{o:Oper}{v:Value}{w:World}{ρ:Operand->Value}
theorem qIQ {u:Sem Unit}{r:Option IH}(hr:qLX r=some (.val v H'))(he:execOp ρ o=(do u;pure .skip))
 (h:∀ H2,r=some H2->∃ w',u.run P w=.ok () w'∧Rel P f H2 w'∧Grow f H w f H2 w'∧Keep f H H2):sS P f H w v H' ((execOp ρ o).run P w):=by
 cases r with
 | none=>cases hr
 | some H2 =>
   obtain⟨rfl,rfl⟩:=val_inj hr;obtain⟨w',h1,h2,h3,h4⟩:=h H2 rfl;exact⟨.skip,undef,w',f,by rw[he];simp[h1],.inr ⟨rfl,rfl⟩,h2,h3,.undef,h4⟩
theorem qQX {r:Option IH}{s:zE7}(h:qLX r=some s):∃ v H',s=.val v H':=by
 cases r with
 | none=>cases h
 | some H2=>cases h;exact⟨_,_,rfl⟩
theorem fG {r:Option Value}{s:zE7}(h:zE7.ofO H r=some s):∃ v,s=.val v H∧r=some v:=by
 cases r with
 | none=>cases h
 | some v=>cases h;exact⟨_,rfl,rfl⟩
theorem qGY {s:zE7}(h:kL P o env H=some s):∃ v H',s=.val v H':=by
 obtain⟨v,rfl,_⟩:=qHM h;exact⟨_,_,rfl⟩
theorem qYH {op:BinOp}{t:TypeId}{x y:Value}{s:zE7}(h:yT P o op t x y env H=some s):∃ v H',s=.val v H':=by
 have hnil:zFE P o op t x y env H=some s->∃ v H',s=.val v H':=by
  intro h;unfold zFE at h
  repeat' split at h
  all_goals first | (cases h;exact⟨_,_,rfl⟩) | exact qGY h
 unfold yT at h;split at h
 ·split at h
  ·unfold zFR at h;rw[cond_eq_ite] at h;split at h
   ·split at h
    ·cases h;exact⟨_,_,rfl⟩
    ·exact qGY h
   ·exact qGY h
  ·exact hnil h
 ·exact hnil h
theorem Post.zF4 {s:Sem Value}(h:Post P f H w v H' (s.run P w))(he:execOp ρ o=(do pure (Next.value (<- s)))) :
 qDW P f H w (.val v H') ((execOp ρ o).run P w):=sS.of_run he h
theorem pY (x:Option Operand)(h:∀ y∈x.toArray,zE0 P f (env.val y) (ρ y)):gG P f (x.map env.val) (x.map ρ):=by
 cases x with
 | none=>trivial
 | some y=>exact h y (by simp)
theorem q6G {o:Oper}{s:zE7}(hR:Rel P f H w)(h:iop P o env H=some s)
 (hρ:∀ x∈o.op.operands,zE0 P f (env.val x) (ρ x)):qDW P f H w s ((execOp ρ o).run P w):=by
 have dry:kL P o env H=some s->qDW P f H w s ((execOp ρ o).run P w):=by
  intro hd;obtain⟨v,H',rfl⟩:=qGY hd;exact rQ hR hd hρ
 have one:∀ (op:Op),o.op=op->∀ x∈op.operands,zE0 P f (env.val x) (ρ x):=fun op ho x hx=>hρ x (by rw[ho];exact hx)
 have zHB:∀ {v:Value} {S:Sem Value},execOp ρ o=(do pure (Next.value (<- S)))->(∃ v',S.run P w=.ok v' w∧zE0 P f v v')->qDW P f H w (.val v H) ((execOp ρ o).run P w):=by
  rintro v S he ⟨v',h1,h2⟩;exact⟨.value v',v',w,f,by rw[he];simp[h1],.inl rfl,hR,.refl _ _ _,h2,.refl _ _⟩
 have ex:∀ (op:Op),o.op=op->execOp ρ o=execOp ρ { o with op:=op }:=fun op ho=>by rw[<-ho]
 unfold iop at h;split at h
 ·-- move
  rename_i x ho;have hone:=one _ ho;cases h;exact⟨.value _,_,w,f,by unfold execOp;rw[ho];rfl,.inl rfl,hR,.refl _ _ _,hone _ (by simp[Op.operands]),.refl _ _⟩
 ·rename_i x ho;have hone:=one _ ho;cases h;exact⟨.value _,_,w,f,by unfold execOp;rw[ho];rfl,.inl rfl,hR,.refl _ _ _,hone _ (by simp[Op.operands]),.refl _ _⟩
 ·-- pick
  rename_i c a b ho;have hone:=one _ ho
  have:∃ v H',s=.val v H':=by
   unfold qNB at h;split at h
   ·cases h;exact⟨_,_,rfl⟩
   ·cases h
  obtain⟨v,H',rfl⟩:=this;obtain⟨v',w',f',h1,h2,h3,h4,h5⟩:=qZ5 hR h (hone c (by simp[Op.operands])) (hone a (by simp[Op.operands])) (hone b (by simp[Op.operands]));refine⟨.value v',v',w',f',?_,.inl rfl,h2,h3,h4,h5⟩;unfold execOp;rw[ho];simp only[Sem.run_bind,Sem.run_pure] at h1 ⊢
  cases hb:(asBool (ρ c)).run P w with
  | ok t w2=>rw[hb] at h1;simp only[Result.andThen_ok] at h1 ⊢;cases h1;rfl
  | halt t w2=>rw[hb] at h1;cases h1
 ·-- alloc
  rename_i elem ho
  have:∃ v H',s=.val v H':=by
   unfold r9 at h;split at h
   ·cases h;exact⟨_,_,rfl⟩
   ·cases h
  obtain⟨v,H',rfl⟩:=this;exact (qTA hR h).zF4 (by unfold execOp;rw[ho])
 ·-- box
  rename_i elem x ho;have hone:=one _ ho
  have:∃ v H',s=.val v H':=by
   unfold q4V at h;split at h
   ·cases h;exact⟨_,_,rfl⟩
   ·cases h
  obtain⟨v,H',rfl⟩:=this;exact (q5V hR h (hone _ (by simp[Op.operands]))).zF4 (by unfold execOp;rw[ho])
 ·-- build
  rename_i t parts ho;have hone:=one _ ho;obtain⟨v,rfl,h1⟩:=fG h
  have hp:zAP P f (parts.toList.map fun p=>(p.1,env.val p.2)) (parts.toList.map fun p=>(p.1,ρ p.2)):=by
   refine⟨by simp,?_⟩;rw[zQP,zQP];exact qE.map _ _ _ fun p hp=>hone p.2 (by simp only[Op.operands];exact List.mem_toArray.2 (zR2 hp))
  have:=(qU3 (w:=w) hR h1 hp).zF4 (o:=o) (ρ:=ρ) (by unfold execOp;rw[ho];simp only;congr 3;apply zP5;simp);exact this
 ·-- buildSlice
  rename_i t len parts ho;have hone:=one _ ho
  have:∃ v H',s=.val v H':=by
   unfold kJ at h
   repeat' split at h
   all_goals first | (cases h;exact⟨_,_,rfl⟩) | cases h
  obtain⟨v,H',rfl⟩:=this
  have hp:zAP P f (parts.toList.map fun p=>(p.1,env.val p.2)) (parts.toList.map fun p=>(p.1,ρ p.2)):=by
   refine⟨by simp,?_⟩;rw[zQP,zQP];exact qE.map _ _ _ fun p hp=>hone p.2 (by simp only[Op.operands];exact List.mem_toArray.2 (zR2 hp))
  exact (qC7 (w:=w) hR h hp).zF4 (o:=o) (ρ:=ρ) (by unfold execOp;rw[ho];simp only;congr 3;apply zP5;simp)
 ·-- load
  rename_i t a ho;have hone:=one _ ho;obtain⟨v,rfl,h1⟩:=fG h;exact zHB (by unfold execOp;rw[ho]) (qDN hR h1 (hone _ (by simp[Op.operands])))
 ·-- store
  rename_i t a x ho;have hone:=one _ ho;obtain⟨v,H',rfl⟩:=qQX h;exact qIQ h (by unfold execOp;rw[ho]) fun H2 h2=>qL2 hR h2 (hone _ (by simp[Op.operands])) (hone _ (by simp[Op.operands]))
 ·-- nilCheck
  rename_i x ho;have hone:=one _ ho
  have:∃ v H',s=.val v H':=by
   unfold wG at h
   repeat' split at h
   all_goals first | (cases h;exact⟨_,_,rfl⟩) | cases h
  obtain⟨v,H',rfl⟩:=this;obtain⟨v',h1,rfl,h2⟩:=qJE hR h (hone _ (by simp[Op.operands])) (o:=o) (ρ:=ρ) ho rfl;exact⟨.value v',v',w,f,h1,.inl rfl,hR,.refl _ _ _,h2,.refl _ _⟩
 ·-- binOp
  rename_i op t x y u ho;obtain⟨v,H',rfl⟩:=qYH h;exact qVQ hR ho h hρ
 ·-- convert
  rename_i src dst x ho;have hone:=one _ ho;unfold gY at h;split at h
  ·rename_i a he;obtain⟨v,rfl,h1⟩:=fG h;have hx:=hone x (by simp[Op.operands]);rw[he] at hx;exact (qNH (w:=w) hR h1 hx).zF4 (by unfold execOp;rw[ho])
  ·exact dry h
 ·-- makeFunc
  rename_i fn first captured ho
  have hone:=one _ ho
  have:∃ v H',s=.val v H':=by
   unfold wN at h;split at h
   ·cases h;exact⟨_,_,rfl⟩
   ·cases h
  obtain⟨v,H',rfl⟩:=this;refine (qIH (w:=w) (a':=first.map ρ) (c':=captured.map ρ) hR h ?_ ?_).zF4 (by unfold execOp;rw[ho])
  ·rw[zQ9,zQ9];exact qE.map _ _ _ fun x hx=>hone x (by simp only[Op.operands,zQU];exact .inl (zPW.2 hx))
  ·rw[zQ9,zQ9];exact qE.map _ _ _ fun x hx=>hone x (by simp only[Op.operands,zQU];exact .inr (zPW.2 hx))
 ·-- makeMap
  rename_i t r ho
  have:∃ v H',s=.val v H':=by
   unfold bK at h;split at h
   ·cases h;exact⟨_,_,rfl⟩
   ·cases h
  obtain⟨v,H',rfl⟩:=this;exact (qNU (w:=w) hR h t ρ).zF4 (by unfold execOp;rw[ho])
 ·-- makeSlice
  rename_i t l c ho;have hone:=one _ ho
  have:∃ v H',s=.val v H':=by
   unfold jU at h
   repeat' split at h
   all_goals first | (cases h;exact⟨_,_,rfl⟩) | cases h
  obtain⟨v,H',rfl⟩:=this;exact (qHQ (w:=w) hR h (hone _ (by simp[Op.operands])) (hone _ (by simp[Op.operands]))).zF4 (by unfold execOp;rw[ho])
 ·-- slice
  rename_i t x lo hi mx ho;have hone:=one _ ho;unfold wZ at h;split at h
  ·exact dry h
  ·obtain⟨v,rfl,h1⟩:=fG h
   exact zHB (by unfold execOp;rw[ho]) (qWI h1 (hone x (by simp[Op.operands]))
    (pY lo fun y hy=>hone y (by simp only[Op.operands,zQU];exact .inl (.inl (.inr hy))))
    (pY hi fun y hy=>hone y (by simp only[Op.operands,zQU];exact .inl (.inr hy)))
    (pY mx fun y hy=>hone y (by simp only[Op.operands,zQU];exact .inr hy)))
 ·-- fieldAddr
  rename_i st x fd ho;have hone:=one _ ho;obtain⟨v,rfl,h1⟩:=fG h;exact zHB (by unfold execOp;rw[ho]) (qNM h1 (hone _ (by simp[Op.operands])))
 ·rename_i t x ix ho;have hone:=one _ ho;obtain⟨v,rfl,h1⟩:=fG h;exact zHB (by unfold execOp;rw[ho]) (qLQ h1 (hone _ (by simp[Op.operands])) (hone _ (by simp[Op.operands])))
 ·-- index
  rename_i t x ix ho;have hone:=one _ ho;unfold wV at h;split at h
  ·exact dry h
  ·obtain⟨v,rfl,h1⟩:=fG h;exact zHB (by unfold execOp;rw[ho]) (qTH h1 (hone _ (by simp[Op.operands])) (hone _ (by simp[Op.operands])))
 ·-- lookup
  rename_i t x k ok ho;have hone:=one _ ho;obtain⟨v,rfl,h1⟩:=fG h;exact (qR9 (w:=w) hR h1 (hone _ (by simp[Op.operands])) (hone _ (by simp[Op.operands]))).zF4 (by unfold execOp;rw[ho])
 ·-- mapUpdate
  rename_i t m k x ho;have hone:=one _ ho;obtain⟨v,H',rfl⟩:=qQX h;exact qIQ h (by unfold execOp;rw[ho]) fun H2 h2=>qHF hR h2 (hone _ (by simp[Op.operands])) (hone _ (by simp[Op.operands])) (hone _ (by simp[Op.operands]))
 ·-- extract
  rename_i t ix ho;have hone:=one _ ho
  have:∃ v H',s=.val v H':=by
   unfold fK at h;split at h
   ·unfold wP at h;split at h
    ·rw[cond_eq_ite] at h;split at h
     ·cases h;exact⟨_,_,rfl⟩
     ·cases h
    ·cases h
   ·cases h
  obtain⟨v,H',rfl⟩:=this;exact (qMV (w:=w) hR h (hone _ (by simp[Op.operands]))).zF4 (by unfold execOp;rw[ho])
 ·-- call
  rename_i c ho;unfold yJ at h;split at h
  ·rename_i r hr;cases h;exact qZB hR ho hr hρ
  ·exact dry h
 ·exact dry h
 ·cases h
end Go.Idl
