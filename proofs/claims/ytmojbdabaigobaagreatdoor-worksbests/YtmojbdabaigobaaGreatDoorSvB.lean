/- A symbolic run, part two. Conditions: none. -/
import Derived.Test.YtmojbdabaigobaaGreatDoorSvA
set_option linter.all false
namespace Go.Sv
open Go.Idl
variable {c i s:Nat}{env:List SV}{h:SH}{ob:PO}{ph ph':PHp}{ty:TypeId}{v:SV}{x y:PV}
noncomputable section
variable [Gc]
variable [Yl]
variable {P:Program}{R:Type}{r:R}{G:Nat->Bool}{nm:Nm}{rd:Bool}
def Wk (P:Program)(nm:Nm)(pe:List PV)(ph:PHp)(pe':List PV)(ph':PHp):Prop :=
 ∀ (Z:Nat->Prop) (H:IH) (m:Nat->Nat) (vs:List Value),Hp P Z H (own m ph)->VRL P Z H (own m ph) pe vs ->
  ∃ Z' m',Hp P Z' H (own m' ph')∧VRL P Z' H (own m' ph') pe' vs∧Step Z H (own m ph) Z' H (own m' ph')∧KR (inP nm) (own m ph) (own m' ph')
omit [Yl] in
theorem Wk.refl (pe:List PV)(ph:PHp):Wk P nm pe ph pe ph:=fun Z H m vs hp hv=>⟨Z,m,hp,hv,.refl _ _ _,.refl _ _⟩
omit [Yl] in
theorem Wk.trans {a b c:List PV}{p q s:PHp}(x:Wk P nm a p b q)(y:Wk P nm b q c s):Wk P nm a p c s:=fun Z H m vs hp hv=>by
 obtain⟨Z1,m1,a1,a2,a3,a4⟩:=x Z H m vs hp hv;obtain⟨Z2,m2,b1,b2,b3,b4⟩:=y Z1 H m1 vs a1 a2;exact⟨Z2,m2,b1,b2,a3.trans b3,a4.trans b4⟩
omit [Yl] in
theorem Wk.drop {a b:List PV}{p q:PHp}(hw:WkP a b)(hs:qBD q p):Wk P nm a p b q:=fun Z H m vs hp hv=>by
 have hf:=Fz.drop hp hs;exact⟨Z,m,hf.hp,hw.rel (hf.vrl hv),hf.step,hf.kr _⟩
omit [Yl] in
theorem qQ6:∀ {l m:List PV},l.length=m.length->(∀ i,zL m i=zL l i∨zL m i=some .unk)->WkP l m
 | [],[],_,_=>.nil
 | [],_::_,h,_=>by cases h
 | _::_,[],h,_=>by cases h
 | x::l,y::m,h,hi=>by
   have ih:=qQ6 (l:=l) (m:=m) (by simpa using h) fun i=>hi (i+1)
   rcases hi 0 with q | q
   ·have q:some y=some x:=q;cases q;exact .same ih
   ·have q:some y=some PV.unk:=q;cases q;exact .any ih
def fzs (P:Program):List (Nat×TypeId)->List SV->SH->(List SV->SH->zEY R)->zEY R
 | [],env,h,K=>K env h
 | (i,ty)::l,env,h,K=>match zL env i,qD3 P 8 ty with
   | some v,some t=>(match q4S P ty t v h with
     | some (x,h')=>fzs P l (yR env i (t.sv x)) h' K
     | none=>.fail)
   | _,_=>.fail
def xL (P:Program)(w:List Nat)(env:List SV)(h:SH)(env':List SV)(h':SH):Prop :=
 okL h' env'∧OkH P h'∧Keep h h'∧(∀ i,i ∉ w->zL (qB env') i=zL (qB env) i)∧env'.length=env.length
theorem xL.trans {w w2:List Nat}{env zE4 zFH:List SV}{h h1 h2:SH}(a:xL P w env h zE4 h1)(b:xL P w2 zE4 h1 zFH h2):xL P (w++w2) env h zFH h2 :=
 ⟨b.1,b.2.1,a.2.2.1.trans b.2.2.1,fun i hi=>by
   rw[zPJ,not_or] at hi
   exact (b.2.2.2.1 i hi.2).trans (a.2.2.2.1 i hi.1),b.2.2.2.2.trans a.2.2.2.2⟩
theorem xL.refl {env:List SV}{h:SH}(ho:OkH P h)(he:okL h env):xL P [] env h env h:=⟨he,ho,.refl _,fun _ _=>rfl,rfl⟩
theorem xL.up {w w2:List Nat}{zE4:List SV}{h1:SH}(a:xL P w env h zE4 h1)(hw:∀ i∈w,i∈w2):xL P w2 env h zE4 h1 :=
 ⟨a.1,a.2.1,a.2.2.1,fun i hi=>a.2.2.2.1 i fun q=>hi (hw i q),a.2.2.2.2⟩
theorem pV {j:Nat}(h:i≠j):zL (qB (yR env i v)) j=zL (qB env) j:=by
 rw[xZ,qX,qF,qF,zPA,if_neg h]
theorem q8X {h':SH}(hv:zL env i=some v)(hf:fzP P (qD h.l) v.enc=some (y,qD h'.l)):Wk P nm (qB env) (qD h.l) (yR (qB env) i (rt1 P ty y)) (qD h'.l):=by
 intro Z H m vs hp hr
 have hi:(qB env)[i]?=some v.enc:=by
  rw[qF] at hv;rw[zH,zOX,hv];rfl
 obtain⟨u,hu,hr2⟩:=hr.get hi;obtain⟨Z',h1,h2⟩:=qKC hp hr2 hf;exact⟨Z',m,h1.hp,(h1.vrl hr).slot hu (qDQ (bQ h2 (qQ1 hf))),h1.step,h1.kr _⟩
theorem q3W:∀ {l:List (Nat×TypeId)} {env:List SV} {h:SH} {K:List SV->SH->zEY R},OkH P h->okL h env->(fzs P l env h K).run=some r ->
 ∃ env' h',Wk P nm (qB env) (qD h.l) (qB env') (qD h'.l)∧xL P (l.map (·.1)) env h env' h'∧(K env' h').run=some r
 | [],env,h,K,ho,he,e=>⟨env,h,.refl _ _,.refl ho he,e⟩
 | (i,ty)::l,env,h,K,ho,he,e=>by
   unfold fzs at e;split at e
   ·rename_i v t hv ht;split at e
    ·rename_i x h' hd;obtain⟨y,a1,a2,a3,a4,_⟩:=qB0 ho (mW he hv) hd;have hw:=q8X (nm:=nm) (ty:=ty) hv a1;have hs:yR (qB env) i (rt1 P ty y)=qB (yR env i (t.sv x)):=by rw[xZ,o8,a2]
     rw[hs] at hw;obtain⟨env',h2,b1,b2,b3⟩:=q3W (l:=l) a4 (xG (t:=i) (v:=t.sv x) (qI a3 he) (qIL t x)) e;refine⟨env',h2,hw.trans b1,?_,b3⟩
     have h0:xL P [i] env h (yR env i (t.sv x)) h':=⟨xG (qI a3 he) (qIL t x),a4,a3,fun j hj=>pV fun q=>hj (by rw[q];exact zRO j),jI _ _ _⟩
     exact h0.trans b2
    ·cases e
   ·cases e
omit [Yl] in
theorem Wk.zMR {env:List PV}(i k:Nat)(el:TypeId)(hi:zL env i=some (fvv (.slice none 0 0)))(hs:szT P el=some (s+1))(hf:fresh nm k env ph=true):Wk P nm env ph (yR env i (.own k 0 0 0)) ((k,⟨el,true,[]⟩)::ph):=by
 intro Z H m zEZ hp he;rw[qF] at hi;obtain⟨v,hv,hr⟩:=he.get hi;have hvn:v=.slice none 0 0:=yM hr rfl;subst hvn;obtain⟨f1,f2,f3⟩:=q79 nm hf;have hnew:own m ((k,⟨el,true,[]⟩)::ph) k=some (m k,⟨el,true,[]⟩):=by simp[own,qA]
 have hold:∀ j,j≠k->own m ((k,⟨el,true,[]⟩)::ph) j=own m ph j:=fun j hj=>by
  unfold own;rw[yH hj]
 have hkr:KR (fun j=>j==k) (own m ph) (own m ((k,⟨el,true,[]⟩)::ph)):=fun j b ob hk=>by
  by_cases hj:j=k
  ·exact .inr (.inr (by simp[hj]))
  ·rw[hold j hj] at hk;exact .inl ⟨ob,hk,rfl,rfl,rfl⟩
 have mono:∀ {xs:List PV} {vs:List Value},VRL P Z H (own m ph) xs vs->yA k xs=true->VRL P Z H (own m ((k,⟨el,true,[]⟩)::ph)) xs vs:=fun h hn=>h.mono (fun _ h=>h) (zOI _) (fun _ _ _=>rfl) hkr fun j hj=>by
  have:j=k:=by simpa using hj
  subst this;exact hn
 have hp':Hp P Z H (own m ((k,⟨el,true,[]⟩)::ph)):=by
  refine⟨hp.zlt,fun j b ob hk=>?_,fun j j' b b' ob ob' h1 h2 r1 r2 hne=>?_,hp.gl⟩
  ·by_cases hj:j=k
   ·subst hj;rw[hnew] at hk;cases hk;exact .inl ⟨rfl,rfl⟩
   ·rw[hold j hj] at hk
    rcases hp.obj j b ob hk with h | ⟨a1,a2,a3,a4⟩
    ·exact .inl h
    ·exact .inr ⟨a1,a2,a3,a4.mono rfl fun _ a5=>mono a5 (jW f3 (vK hk).1)⟩
  ·by_cases hj:j=k
   ·subst hj;rw[hnew] at h1;cases h1;exact absurd ⟨rfl,rfl⟩ r1
   ·by_cases hj':j'=k
    ·subst hj';rw[hnew] at h2;cases h2;exact absurd ⟨rfl,rfl⟩ r2
    ·rw[hold j hj] at h1;rw[hold j' hj'] at h2;exact hp.inj j j' b b' ob ob' h1 h2 r1 r2 hne
 have hown:VR P Z H (own m ((k,⟨el,true,[]⟩)::ph)) (.own k 0 0 0) (.slice none 0 0):=.own rfl fun b ob hM=>by
  rw[hnew] at hM;cases hM;exact⟨s+1,hs,by omega,by simp,fun _=>.inl ⟨rfl,rfl,rfl,rfl,rfl⟩⟩
 have hst:Step Z H (own m ph) Z H (own m ((k,⟨el,true,[]⟩)::ph)):=⟨zOI _,rfl,fun _ h=>h,fun _ _ _=>rfl,fun b h _=>.inl h,fun b ⟨j,ob,h1,h2⟩ _=>by
  by_cases hj:j=k
  ·subst hj;rw[hnew] at h1;cases h1;exact absurd ⟨rfl,rfl⟩ h2
  ·rw[hold j hj] at h1;exact⟨j,ob,h1,h2⟩⟩
 have hup:KR (inP nm) (own m ph) (own m ((k,⟨el,true,[]⟩)::ph)):=hkr.up fun j hj=>by
  have e:j=k:=by simpa using hj
  rw[e];exact f1
 exact⟨Z,m,hp',(mono he f2).slot hv hown,hst,hup⟩
omit [Yl] in
theorem Wk.zLG {env:List PV}(kb i k:Nat)(el:TypeId)(hk:qA kb ph=some ob)(hsp:spec P ob.el=false)(hgr:ob.gr=false)(hi:zL ob.cs i=some (fvv (.slice none 0 0)))(hs:szT P el=some (s+1))(hf:fresh nm k env ph=true)(hne:k≠kb) :
 Wk P nm env ph env ((k,⟨el,true,[]⟩)::xW kb ⟨ob.el,false,yR ob.cs i (.own k 0 0 0)⟩ ph):=by
 intro Z H m zEZ hp he;obtain⟨f1,f2,f3⟩:=q79 nm hf;generalize zMS:(k,(⟨el,true,[]⟩:PO))::xW kb ⟨ob.el,false,yR ob.cs i (.own k 0 0 0)⟩ ph=ph'
 have hM':∀ j,own m ph' j=if j=k then some (m k,⟨el,true,[]⟩) else if j=kb then some (m kb,⟨ob.el,false,yR ob.cs i (.own k 0 0 0)⟩) else own m ph j:=fun j=>by
  subst zMS;unfold own;by_cases h1:j=k
  ·subst h1;simp[qA]
  ·rw[if_neg h1,yH h1,zD];by_cases h2:j=kb
   ·subst h2;rw[if_pos ⟨rfl,by rw[hk];rfl⟩,if_pos rfl];rfl
   ·rw[if_neg (fun h=>h2 h.1),if_neg h2]
 have hnew:own m ph' k=some (m k,⟨el,true,[]⟩):=by rw[hM',if_pos rfl]
 have zGJ:own m ph' kb=some (m kb,⟨ob.el,false,yR ob.cs i (.own k 0 0 0)⟩):=by rw[hM',if_neg hne.symm,if_pos rfl]
 have hold:∀ j,j≠k->j≠kb->own m ph' j=own m ph j:=fun j h1 h2=>by rw[hM',if_neg h1,if_neg h2]
 have hkM:own m ph kb=some (m kb,ob):=qN hk
 have hkr:KR (fun j=>j==k) (own m ph) (own m ph'):=fun j b o hj=>by
  by_cases h1:j=k
  ·exact .inr (.inr (by simp[h1]))
  ·by_cases h2:j=kb
   ·subst h2;rw[zGJ] at hj;cases hj;exact .inl ⟨ob,hkM,by simp[qX],rfl,hgr⟩
   ·rw[hold j h1 h2] at hj;exact .inl ⟨o,hj,rfl,rfl,rfl⟩
 have mono:∀ {xs:List PV} {vs:List Value},VRL P Z H (own m ph) xs vs->yA k xs=true->VRL P Z H (own m ph') xs vs:=fun h hn=>h.mono (fun _ h=>h) (zOI _) (fun _ _ _=>rfl) hkr fun j hj=>by
  have:j=k:=by simpa using hj
  subst this;exact hn
 have hown:VR P Z H (own m ph') (.own k 0 0 0) (.slice none 0 0):=.own rfl fun b o hM=>by
  rw[hnew] at hM;cases hM;exact⟨s+1,hs,by omega,by simp,fun _=>.inl ⟨rfl,rfl,rfl,rfl,rfl⟩⟩
 have zFO:¬ (ob.gr=true∧ob.cs=[]):=fun h=>by rw[hgr] at h;cases h.1
 have hp':Hp P Z H (own m ph'):=by
  refine⟨hp.zlt,fun j b o hj=>?_,fun j j' b b' o o' h1 h2 r1 r2 hn=>?_,hp.gl⟩
  ·by_cases h1:j=k
   ·subst h1;rw[hnew] at hj;cases hj;exact .inl ⟨rfl,rfl⟩
   ·by_cases h2:j=kb
    ·subst h2;rw[zGJ] at hj;cases hj
     rcases hp.obj j _ ob hkM with h | ⟨a1,a2,a3,⟨_,vs,a4,a5,a6⟩ | ⟨hs2,_⟩⟩
     rotate_right 1
     ·rw[hsp] at hs2;cases hs2
     ·exact absurd h zFO
     ·have hv:=mono a5 (jW f3 hk);obtain⟨v,hv1,hv2⟩:=a5.get (i:=i) (by rw[<-qF];exact hi);have:v=.slice none 0 0:=yM hv2 rfl;subst this;refine .inr ⟨a1,a2,a3,.inl ⟨hsp,vs,?_,hv.slot hv1 hown,a6⟩⟩;rw[a4,hgr]
    ·rw[hold j h1 h2] at hj
     rcases hp.obj j b o hj with h | ⟨a1,a2,a3,a4⟩
     ·exact .inl h
     ·exact .inr ⟨a1,a2,a3,a4.mono rfl fun _ a5=>mono a5 (jW f3 (vK hj).1)⟩
  ·have tr:∀ {j b o},own m ph' j=some (b,o)->¬ (o.gr=true∧o.cs=[])->∃ o2,own m ph j=some (b,o2)∧¬ (o2.gr=true∧o2.cs=[]):=fun {j b o} hj hr=>by
    by_cases h1:j=k
    ·subst h1;rw[hnew] at hj;cases hj;exact absurd ⟨rfl,rfl⟩ hr
    ·by_cases h2:j=kb
     ·subst h2;rw[zGJ] at hj;cases hj;exact⟨ob,hkM,zFO⟩
     ·rw[hold j h1 h2] at hj;exact⟨o,hj,hr⟩
   obtain⟨o2,q1,q2⟩:=tr h1 r1;obtain⟨o3,q3,q4⟩:=tr h2 r2;exact hp.inj j j' b b' o2 o3 q1 q3 q2 q4 hn
 have hst:Step Z H (own m ph) Z H (own m ph'):=⟨zOI _,rfl,fun _ h=>h,fun _ _ _=>rfl,fun b h _=>.inl h,fun b ⟨j,o,h1,h2⟩ _=>by
  by_cases e1:j=k
  ·subst e1;rw[hnew] at h1;cases h1;exact absurd ⟨rfl,rfl⟩ h2
  ·by_cases e2:j=kb
   ·subst e2;rw[zGJ] at h1;cases h1;exact⟨j,ob,hkM,zFO⟩
   ·rw[hold j e1 e2] at h1;exact⟨j,o,h1,h2⟩⟩
 exact⟨Z,m,hp',mono he f2,hst,hkr.up fun j hj=>by
  have e:j=k:=by simpa using hj
  rw[e];exact f1⟩
def qEU:SV->Bool
 | .c (.slice none 0 0)=>true
 | _=>false
theorem qEY (e:qEU v=true):v.enc=fvv (.slice none 0 0):=by
 unfold qEU at e;split at e
 ·simp[SV.enc]
 ·cases e
def qRE (P:Program)(nm:Nm):List (Nat×TypeId)->List SV->SH->(List SV->SH->zEY R)->zEY R
 | [],env,h,K=>K env h
 | (i,el)::l,env,h,K=>match zL env i with
   | some v=>cond (qEU v) (match szT P el,qD3 P 8 el with
     | some (s+1),some t=>cond (Nat.beq t.w (s+1)&&qE8 nm (nm.b+i) env h) (qRE P nm l (yR env i (.own (nm.b+i) h.next 0)) (h.new (nm.b+i) fun v=>.list el true v v t []) K) .fail
     | _,_=>.fail) (qRE P nm l env h K)
   | none=>.fail
theorem qAA:∀ {l:List (Nat×TypeId)} {env:List SV} {h:SH} {K:List SV->SH->zEY R},OkH P h->okL h env->(qRE P nm l env h K).run=some r ->
 ∃ env' h',Wk P nm (qB env) (qD h.l) (qB env') (qD h'.l)∧xL P (l.map (·.1)) env h env' h'∧(K env' h').run=some r
 | [],env,h,K,ho,he,e=>⟨env,h,.refl _ _,.refl ho he,e⟩
 | (i,el)::l,env,h,K,ho,he,e=>by
   unfold qRE at e;split at e
   ·rename_i v hv
    cases hn:qEU v with
    | false =>
      rw[hn] at e;obtain⟨env',h2,b1,b2,b3⟩:=qAA (l:=l) ho he e;exact⟨env',h2,b1,b2.up fun j hj=>zOK _ hj,b3⟩
    | true =>
      rw[hn] at e;simp only[cond_true] at e;split at e
      ·rename_i s t hs ht;obtain⟨c,e1⟩:=qG e;rw[zOG] at c;have hw:t.w=s+1:=zOH c.1;have hn2:=xI (k:=nm.b+i) (f:=fun v=>.list el true v v t []) ho ⟨rfl,rfl,by rw[hs,hw],by omega⟩
       have hfr:fresh nm (nm.b+i) (qB env) (qD h.l)=true:=by
        have c2:=c.2;unfold qE8 at c2;simp only[zOG] at c2;unfold fresh;rw[c2.1,c2.2.1,jL c2.2.2];rfl
       have hwk:Wk P nm (qB env) (qD h.l) (qB (yR env i (.own (nm.b+i) h.next 0))) (qD (h.new (nm.b+i) fun v=>.list el true v v t []).l):=by
        have:=Wk.zMR (P:=P) (nm:=nm) (ph:=qD h.l) i (nm.b+i) el (by rw[qW,hv,zOW,qEY hn]) hs hfr;rw[xZ];simpa [SV.enc,SH.new,qD,SO.enc] using this
       have hok:(SV.own (nm.b+i) h.next 0).ok (h.new (nm.b+i) fun v=>.list el true v v t []):=wF (xs:=([]:List t.sem)) rfl;obtain⟨env',h2,b1,b2,b3⟩:=qAA (l:=l) hn2.2 (xG (t:=i) (qI hn2.1 he) hok) e1;refine⟨env',h2,hwk.trans b1,?_,b3⟩
       have h0:xL P [i] env h (yR env i (.own (nm.b+i) h.next 0)) (h.new (nm.b+i) fun v=>.list el true v v t []):=⟨xG (qI hn2.1 he) hok,hn2.2,hn2.1,fun j hj=>pV fun q=>hj (by rw[q];exact zRO j),jI _ _ _⟩
       exact h0.trans b2
      ·cases e
   ·cases e
theorem Hp.rel {Z:Nat->Prop}{H:IH}{m:Nat->Nat}{k L:Nat}(hp:Hp P Z H (own m ph))(hk:qA k ph=some ob)(h1:ob.el=1000000001)(h2:ob.gr=false)(h3:spec P 1000000001=true)(hL:qA L ph'=some ob)
 (hs:∀ j o,j≠L->qA j ph'=some o->j≠k∧qA j ph=some o∧yA L o.cs=true) :
 Hp P Z H (own (fun j=>if j=L then m k else m j) ph')∧Step Z H (own m ph) Z H (own (fun j=>if j=L then m k else m j) ph')∧KR (fun j=>j==L) (own m ph) (own (fun j=>if j=L then m k else m j) ph'):=by
 have zFO:Go.Idl.real ob:=fun h=>by rw[h2] at h;cases h.1
 have hnew:own (fun j=>if j=L then m k else m j) ph' L=some (m k,ob):=by unfold own;rw[hL];simp
 have hold:∀ {j b o},j≠L->own (fun j=>if j=L then m k else m j) ph' j=some (b,o)->j≠k∧own m ph j=some (b,o)∧yA L o.cs=true:=fun {j b o} hj h=>by
  obtain⟨a1,a2⟩:=vK h;obtain⟨b1,b2,b3⟩:=hs j o hj a1;simp only[if_neg hj] at a2;exact⟨b1,by rw[a2];exact qN b2,b3⟩
 have hkr:KR (fun j=>j==L) (own m ph) (own (fun j=>if j=L then m k else m j) ph'):=fun j b' ob' h=>by
  by_cases hj:j=L
  ·exact .inr (.inr (by simp[hj]))
  ·exact .inl ⟨ob',(hold hj h).2.1,rfl,rfl,rfl⟩
 have hown:∀ {j b o},own (fun j=>if j=L then m k else m j) ph' j=some (b,o)->∃ j',own m ph j'=some (b,o)∧((j=L∧j'=k)∨(j≠L∧j'=j∧j≠k)):=fun {j b o} h=>by
  by_cases hj:j=L
  ·subst hj;rw[hnew] at h;cases h;exact⟨k,qN hk,.inl ⟨rfl,rfl⟩⟩
  ·exact⟨j,(hold hj h).2.1,.inr ⟨hj,rfl,(hold hj h).1⟩⟩
 refine⟨⟨hp.zlt,fun j b o hj=>?_,fun j j' b b' o o' e1 e2 r1 r2 hne=>?_,hp.gl⟩,⟨zOI _,rfl,fun _ h=>h,fun _ _ _=>rfl,fun _ h _=>.inl h,fun b ⟨j,o,hj,hr⟩ _=>?_⟩,hkr⟩
 ·by_cases hjL:j=L
  ·subst hjL;rw[hnew] at hj;cases hj
   rcases hp.obj k (m k) ob (qN hk) with q | ⟨x1,x2,x3,x4⟩
   ·exact absurd q zFO
   ·refine .inr ⟨x1,x2,x3,?_⟩
    rcases x4 with ⟨y,_⟩ | ⟨y1,y2 | ⟨q,_⟩⟩
    ·rw[h1,h3] at y;cases y
    ·exact .inr ⟨y1,.inl y2⟩
    ·rw[h1] at q;cases q
  ·obtain⟨a1,a2,a3⟩:=hold hjL hj
   rcases hp.obj j b o a2 with q | ⟨x1,x2,x3,x4⟩
   ·exact .inl q
   ·exact .inr ⟨x1,x2,x3,x4.mono rfl fun vs hv=>hv.mono (fun _ h=>h) (zOI _) (fun _ _ _=>rfl) hkr fun i hi=>by
     have:i=L:=by simpa using hi
     rw[this];exact a3⟩
 ·obtain⟨i1,q1,c1⟩:=hown e1;obtain⟨i2,q2,c2⟩:=hown e2;refine hp.inj i1 i2 b b' o o' q1 q2 r1 r2 fun e=>?_
  rcases c1 with ⟨rfl,rfl⟩ | ⟨c1,rfl,c1'⟩ <;> rcases c2 with ⟨rfl,rfl⟩ | ⟨c2,rfl,c2'⟩
  ·exact hne rfl
  ·exact c2' e.symm
  ·exact c1' e
  ·exact hne e
 ·obtain⟨i,q,_⟩:=hown hj;exact⟨i,o,q,hr⟩
omit [Yl] in
theorem qPG {j:Nat}{o:SO}:∀ {l:List (Nat×SO)},slk j l=some o->(j,o)∈l
 | (i,p)::l,h=>by
   have h:cond (j==i) (some p) (slk j l)=some o:=h
   cases hj:j==i with
   | true =>
     rw[hj] at h;cases h;have:j=i:=by simpa using hj
     subst this;simp
   | false =>
     rw[hj] at h;exact zOK _ (qPG h)
def qY2 (L:Nat)(l:List (Nat×SO)):List Nat:=(l.filter fun p=>!qD2 L [p]).map (·.1)
def qS5:List Nat->List (Nat×SO)->List (Nat×SO)
 | [],l=>l
 | k::ks,l=>sdl k (qS5 ks l)
omit [Yl] in
theorem aO {k:Nat}:∀ (l:List (Nat×SO)),slk k (sdl k l)=none
 | []=>rfl
 | (i,p)::l=>by
   show slk k (cond (k==i) (sdl k l) ((i,p)::sdl k l))=none
   cases h:k==i with
   | true=>exact aO l
   | false =>
     show cond (k==i) (some p) (slk k (sdl k l))=none;rw[h];exact aO l
omit [Yl] in
theorem qOY {j:Nat}{o:SO}:∀ {ls:List Nat} {l:List (Nat×SO)},slk j (qS5 ls l)=some o->j ∉ ls∧slk j l=some o
 | [],l,h=>⟨by simp,h⟩
 | k::ks,l,h=>by
   have h:slk j (sdl k (qS5 ks l))=some o:=h;by_cases hj:j=k
   ·subst hj;rw[aO] at h;cases h
   ·rw[kN hj] at h;obtain⟨h1,h2⟩:=qOY h;exact⟨by simp[hj,h1],h2⟩
def zBV (P:Program)(nm:Nm)(i:Nat)(env:List SV)(h:SH)(K:List SV->SH->zEY R):zEY R:=match zL env i with
 | some (.mp k)=>(match slk k h.l with
   | some (.spc _ (.map es))=>cond (inP nm (nm.b+i)&&(yA (nm.b+i) (qB (yR env i .unk))&&spec P 1000000001))
      (K (yR env i (.mp (nm.b+i))) ⟨h.next+1,(nm.b+i,.spc h.next (.map es))::qS5 (k::(nm.b+i)::qY2 (nm.b+i) h.l) h.l⟩) .fail
   | _=>.fail)
 | _=>.fail
theorem q5K {K:List SV->SH->zEY R}(ho:OkH P h)(he:okL h env)(e:(zBV P nm i env h K).run=some r) :
 ∃ env' h',Wk P nm (qB env) (qD h.l) (qB env') (qD h'.l)∧xL P [i] env h env' h'∧(K env' h').run=some r:=by
 unfold zBV at e;split at e
 case h_2=>cases e
 rename_i k hi;split at e
 case h_2=>cases e
 rename_i v es hk;obtain⟨hc,e1⟩:=qG e;simp only[zOG] at hc;obtain⟨hin,hno,hsp⟩:=hc
 have hlk:∀ {j:Nat} {o:SO},j≠nm.b+i->slk j ((nm.b+i,SO.spc h.next (.map es))::qS5 (k::(nm.b+i)::qY2 (nm.b+i) h.l) h.l)=some o->j≠k∧slk j h.l=some o∧yA (nm.b+i) o.enc.cs=true:=fun {j o} hj h1=>by
  rw[yD hj] at h1;obtain⟨a1,a2⟩:=qOY h1;simp only[zO1,not_or] at a1;refine⟨a1.1,a2,?_⟩;have hm:=qPG a2
  have:qD2 (nm.b+i) [(j,o)]=true:=by
   cases hb:qD2 (nm.b+i) [(j,o)] with
   | true=>rfl
   | false =>
     refine absurd ?_ a1.2.2;unfold qY2;exact zO6.2 ⟨(j,o),List.mem_filter.2 ⟨hm,by rw[hb];rfl⟩,rfl⟩
  have h2:=jL this;have h2:(yA (nm.b+i) o.enc.cs&&fT (nm.b+i) [])=true:=h2;rw[zOG] at h2;exact h2.1
 have hself:slk (nm.b+i) ((nm.b+i,SO.spc h.next (.map es))::qS5 (k::(nm.b+i)::qY2 (nm.b+i) h.l) h.l)=some (.spc h.next (.map es)):=by
  show cond (nm.b+i==nm.b+i) _ _=_;simp
 have kp:Keep h ⟨h.next+1,(nm.b+i,.spc h.next (.map es))::qS5 (k::(nm.b+i)::qY2 (nm.b+i) h.l) h.l⟩:=by
  refine⟨zR1 _,fun j o hj hw=>?_,fun j el gr g w t xs hj hg=>?_⟩
  ·by_cases hjL:j=nm.b+i
   ·subst hjL;rw[hself] at hj;cases hj;exact absurd hw (zRP _)
   ·exact (hlk hjL hj).2.1
  ·by_cases hjL:j=nm.b+i
   ·subst hjL;rw[hself] at hj;cases hj
   ·exact⟨w,xs,(hlk hjL hj).2.1,rfl⟩
 have ok:OkH P ⟨h.next+1,(nm.b+i,.spc h.next (.map es))::qS5 (k::(nm.b+i)::qY2 (nm.b+i) h.l) h.l⟩:=by
  refine⟨fun j o hj=>?_,fun j el w l hj=>?_,fun j el gr g w t xs hj=>?_⟩
  ·by_cases hjL:j=nm.b+i
   ·subst hjL;rw[hself] at hj;cases hj;exact zPB _
   ·exact zP4 (ho.ver j o (hlk hjL hj).2.1)
  ·by_cases hjL:j=nm.b+i
   ·subst hjL;rw[hself] at hj;cases hj
   ·exact qI kp (ho.cells j el w l (hlk hjL hj).2.1)
  ·by_cases hjL:j=nm.b+i
   ·subst hjL;rw[hself] at hj;cases hj
   ·have:=ho.list j el gr g w t xs (hlk hjL hj).2.1;exact⟨zP4 this.1,this.2⟩
 refine⟨_,_,fun Z H m vs hp hv=>?_,⟨xG (qI kp he) (by simp[SV.ok]),ok,kp,fun j hj=>?_,by rw[qX,zPR]⟩,e1⟩
 ·obtain⟨r1,r2,r3⟩:=Hp.rel (L:=nm.b+i) (ph':=qD ((nm.b+i,SO.spc h.next (.map es))::qS5 (k::(nm.b+i)::qY2 (nm.b+i) h.l) h.l)) (ob:=(SpO.map es).enc) hp (zP hk) rfl rfl hsp (zP hself) fun j o hj hl=>by
   rw[vC] at hl
   cases hq:slk j ((nm.b+i,SO.spc h.next (.map es))::qS5 (k::(nm.b+i)::qY2 (nm.b+i) h.l) h.l) with
   | none=>rw[hq] at hl;cases hl
   | some o' =>
     rw[hq] at hl;cases hl;obtain⟨a1,a2,a3⟩:=hlk hj hq;exact⟨a1,zP a2,a3⟩
  refine⟨Z,_,r1,⟨?_,fun j x u hx hu=>?_⟩,r2,r3.up fun j hj=>by
   have:j=nm.b+i:=by simpa using hj
   rw[this];exact hin⟩
  ·rw[qQ,qX,zPR,<-qQ];exact hv.len
  ·rw[<-qF,qW,qX,qF,zPA] at hx;by_cases hji:i=j
   ·subst hji
    have hlt:i < env.length:=by
     rw[qF] at hi;exact (zOO.1 hi).1
    simp only[if_true,hlt,zOW,zOP] at hx;subst hx;have hv1:=hv.val i _ u (by rw[<-qF,qW,hi];rfl) hu;simp only[SV.enc] at hv1 ⊢
    cases hv1 with
    | mp g1 g2 =>
      obtain⟨_,rfl⟩:=g2 _ _ (qN (zP hk));refine q8Y fun b' ob' hM=>?_
      have:own (fun j=>if j=nm.b+i then m k else m j) (qD ((nm.b+i,SO.spc h.next (.map es))::qS5 (k::(nm.b+i)::qY2 (nm.b+i) h.l) h.l)) (nm.b+i)=some (m k,(SpO.map es).enc):=by
       unfold own;rw[zP hself];simp[SO.enc]
      rw[this] at hM;cases hM;exact⟨rfl,rfl⟩
   ·rw[if_neg hji] at hx;have hx1:(qB env)[j]?=some x:=by rw[<-qF,qW,qF];exact hx
    refine (hv.val j x u hx1 hu).mono (fun _ h=>h) (zOI _) (fun _ _ _=>rfl) r3 fun i' hi'=>?_
    have:i'=nm.b+i:=by simpa using hi'
    rw[this];refine wE hno (i:=j) ?_;rw[<-qF,qW,qX,qF,zPA,if_neg hji];exact hx
 ·have hji:¬ i=j:=fun h=>hj (by simp[h])
  rw[qW,qW,qX,qF,qF,zPA,if_neg hji]
theorem qWY (ho:OkH P h)(he:okL h env):Wk P nm (qB env) (qD h.l) (qB (yR env i .unk)) (qD h.l)∧xL P [i] env h (yR env i .unk) h:=by
 refine⟨Wk.drop (qQ6 (by rw[qQ,qQ,qX,zPR]) fun j=>?_) (qBD.refl _),xG he (by simp[SV.ok]),ho,.refl _,fun j hj=>?_,by rw[qX,zPR]⟩
 ·rw[qW,qW,qX,qF,qF,zPA];by_cases hji:i=j
  ·subst hji;simp only[if_true];by_cases hlt:i < env.length
   ·simp only[hlt,if_true,zOW]
    right;simp[SV.enc]
   ·simp only[hlt,if_false]
    left
    rw[zPZ (by omega)]
  ·rw[if_neg hji];exact .inl rfl
 ·have hji:¬ i=j:=fun h=>hj (by simp[h])
  rw[qW,qW,qX,qF,qF,zPA,if_neg hji]
omit [Yl] in
theorem qAK {f:PHp->PV->Option (FV×PHp)}(hf:∀ ph x y ph',f ph x=some (y,ph')->qBD ph' ph):∀ {l:List PV} {ph ph':PHp} {ys:List FV},tH f l ph=some (ys,ph')->qBD ph' ph
 | [],ph,ph',ys,h=>by cases h;exact .refl _
 | x::l,ph,ph',ys,h=>by
   unfold tH at h;split at h
   ·rename_i y ph1 h1;split at h
    ·rename_i zs ph2 h2;cases h;exact fun k ob q=>hf _ _ _ _ h1 k ob (qAK hf h2 k ob q)
    ·cases h
   ·cases h
omit [Yl] in
theorem qFW:∀ (n:Nat) (ph:PHp) (x:PV) (y:FV) (ph':PHp),fz1 P n ph x=some (y,ph')->qBD ph' ph
 | 0,ph,x,y,ph',h=>by
   cases x with
   | f x =>
     have h:some (x,ph)=some (y,ph'):=h;cases h;exact .refl _
   | _ =>
     have h:(none:Option (FV×PHp))=some (y,ph'):=h;cases h
 | n+1,ph,x,y,ph',h=>by
   cases x with
   | f x =>
     have h:some (x,ph)=some (y,ph'):=h;cases h;exact .refl _
   | own k t o c =>
     unfold fz1 at h;split at h
     case h_2=>cases h
     split at h
     case h_2=>cases h
     obtain⟨_,h⟩:=nQ h;split at h
     case h_2=>cases h
     rename_i hq;cases h
     exact fun j ob q=>by
      have q1:=qAK (qFW n) hq j ob q;rw[yZ] at q1;split at q1
      ·cases q1
      ·exact q1
   | asl el k t =>
     unfold fz1 at h;split at h
     case h_2=>cases h
     obtain⟨_,h⟩:=nQ h;split at h
     case h_2=>cases h
     rename_i hq;cases h
     exact fun j ob q=>by
      have q1:=qAK (qFW n) hq j ob q;rw[yZ] at q1;split at q1
      ·cases q1
      ·exact q1
   | _ =>
     have h:(none:Option (FV×PHp))=some (y,ph'):=h;cases h
omit [Yl] in
theorem q6Y (h:fzP P ph x=some (y,ph')):qBD ph' ph:=by
 unfold fzP at h;split at h
 ·split at h
  ·rename_i hq;cases h;exact qAK (qFW 4) hq
  ·cases h
 ·split at h
  ·rename_i hq;cases h;exact qFW 4 _ _ _ _ hq
  ·cases h
omit [Yl] in
theorem Wk.zMT {env:List PV}(kb i:Nat)(ty:TypeId)(hk':qA kb ph'=some ob)(hsp:spec P ob.el=false)(hgr:ob.gr=false)(hi:zL ob.cs i=some x)(hf:fzP P ph x=some (y,ph'))(hk:qA kb ph=some ob) :
 Wk P nm env ph env (xW kb ⟨ob.el,false,yR ob.cs i (rt1 P ty y)⟩ ph'):=by
 intro Z H m zEZ hp he;have hkM:own m ph kb=some (m kb,ob):=qN hk;have zFO:¬ (ob.gr=true∧ob.cs=[]):=fun h=>by rw[hgr] at h;cases h.1
 rcases hp.obj kb _ ob hkM with h | ⟨_,_,_,⟨_,vs0,a40,a50,_⟩ | ⟨hs2,_⟩⟩
 rotate_right 1
 ·rw[hsp] at hs2;cases hs2
 ·exact absurd h zFO
 obtain⟨v,hv1,hv2⟩:=a50.get (i:=i) (by rw[<-qF];exact hi);obtain⟨Z',fz,hy⟩:=qKC hp hv2 hf;have hyr:∀ M,VR P Z' H M (rt1 P ty y) v:=fun M=>qDQ (bQ hy (qQ1 hf))
 have hp1:=fz.hp;have zJF:own m ph' kb=some (m kb,ob):=qN hk';generalize zMU:xW kb (⟨ob.el,false,yR ob.cs i (rt1 P ty y)⟩:PO) ph'=ph2
 have hM':∀ j,own m ph2 j=if j=kb then some (m kb,⟨ob.el,false,yR ob.cs i (rt1 P ty y)⟩) else own m ph' j:=fun j=>by
  subst zMU;unfold own;rw[zD];by_cases h2:j=kb
  ·subst h2;rw[if_pos ⟨rfl,by rw[hk'];rfl⟩,if_pos rfl];rfl
  ·rw[if_neg (fun h=>h2 h.1),if_neg h2]
 have zGJ:own m ph2 kb=some (m kb,⟨ob.el,false,yR ob.cs i (rt1 P ty y)⟩):=by rw[hM',if_pos rfl]
 have hold:∀ j,j≠kb->own m ph2 j=own m ph' j:=fun j h2=>by rw[hM',if_neg h2]
 have hkr:∀ p,KR p (own m ph') (own m ph2):=fun p j b o hj=>by
  by_cases h2:j=kb
  ·subst h2;rw[zGJ] at hj;cases hj;exact .inl ⟨ob,zJF,by simp[qX],rfl,hgr⟩
  ·rw[hold j h2] at hj;exact .inl ⟨o,hj,rfl,rfl,rfl⟩
 have mono:∀ {xs:List PV} {vs:List Value},VRL P Z' H (own m ph') xs vs->VRL P Z' H (own m ph2) xs vs:=fun h=>h.mono (fun _ h=>h) (zOI _) (fun _ _ _=>rfl) (hkr fun _=>false) fun j hj=>by cases hj
 have hp':Hp P Z' H (own m ph2):=by
  refine⟨hp1.zlt,fun j b o hj=>?_,fun j j' b b' o o' h1 h2 r1 r2 hn=>?_,hp1.gl⟩
  ·by_cases h2:j=kb
   ·subst h2;rw[zGJ] at hj;cases hj
    rcases hp1.obj j _ ob zJF with h | ⟨a1,a2,a3,⟨_,vs,a4,a5,a6⟩ | ⟨hs2,_⟩⟩
    rotate_right 1
    ·rw[hsp] at hs2;cases hs2
    ·exact absurd h zFO
    ·have hv:=mono a5
     have hvv:vs=vs0:=by
      rw[a40] at a4;injection a4 with e1;injection e1 with e2;injection e2 with e3;exact e3.symm
     subst hvv;refine .inr ⟨a1,a2,a3,.inl ⟨hsp,vs,?_,hv.slot hv1 (hyr _),a6⟩⟩;rw[a4,hgr]
   ·rw[hold j h2] at hj
    rcases hp1.obj j b o hj with h | ⟨a1,a2,a3,a4⟩
    ·exact .inl h
    ·exact .inr ⟨a1,a2,a3,a4.mono rfl fun _ a5=>mono a5⟩
  ·have tr:∀ {j b o},own m ph2 j=some (b,o)->¬ (o.gr=true∧o.cs=[])->∃ o2,own m ph' j=some (b,o2)∧¬ (o2.gr=true∧o2.cs=[]):=fun {j b o} hj hr=>by
    by_cases h2:j=kb
    ·subst h2;rw[zGJ] at hj;cases hj;exact⟨ob,zJF,zFO⟩
    ·rw[hold j h2] at hj;exact⟨o,hj,hr⟩
   obtain⟨o2,q1,q2⟩:=tr h1 r1;obtain⟨o3,q3,q4⟩:=tr h2 r2;exact hp1.inj j j' b b' o2 o3 q1 q3 q2 q4 hn
 have hst:Step Z' H (own m ph') Z' H (own m ph2):=⟨zOI _,rfl,fun _ h=>h,fun _ _ _=>rfl,fun b h _=>.inl h,fun b ⟨j,o,h1,h2⟩ _=>by
  by_cases e2:j=kb
  ·subst e2;rw[zGJ] at h1;cases h1;exact⟨j,ob,zJF,zFO⟩
  ·rw[hold j e2] at h1;exact⟨j,o,h1,h2⟩⟩
 exact⟨Z',m,hp',mono (fz.vrl he),fz.step.trans hst,(fz.kr _).trans (hkr _)⟩
def bxI (env:List SV)(i:Nat):Option Nat:=cond (Nat.ble 1000000000000000 i) (some (i - 1000000000000000)) (match zL env i with
 | some (.ref kb _ _)=>some kb
 | _=>none)
def q8C (P:Program)(i c:Nat)(ty:TypeId)(env:List SV)(h:SH)(K:List SV->SH->zEY R):zEY R:=match bxI env i,qD3 P 8 ty with
 | some kb,some t=>(match slk kb h.l with
   | some (.cells _ _ cs)=>(match zL cs c with
     | some v=>(match q4S P ty t v h with
       | some (x,h')=>(match slk kb h'.l with
         | some (.cells e _ cs')=>cond (!spec P e) (K env (h'.put kb fun v=>.cells e v (yR cs' c (t.sv x)))) .fail
         | _=>.fail)
       | none=>.fail)
     | none=>.fail)
   | _=>.fail)
 | _,_=>.fail
theorem qUR {K:List SV->SH->zEY R}(ho:OkH P h)(he:okL h env)(e:(q8C P i c ty env h K).run=some r) :
 ∃ env' h',Wk P nm (qB env) (qD h.l) (qB env') (qD h'.l)∧xL P [i] env h env' h'∧(K env' h').run=some r:=by
 unfold q8C at e;split at e
 case h_2=>cases e
 rename_i kb t hi ht;split at e
 case h_2=>cases e
 rename_i eb wb cs hkb;split at e
 case h_2=>cases e
 rename_i v hv;split at e
 case h_2=>cases e
 rename_i x h' hd;split at e
 case h_2=>cases e
 rename_i e2 w2 cs2 hkb2;obtain⟨hc,e1⟩:=qG e;have hvk:v.ok h:=mW (ho.cells _ _ _ _ hkb) hv;obtain⟨y,a1,a2,a3,a4,_⟩:=qB0 ho hvk hd;have hsp:spec P e2=false:=by simpa using hc
 have hp2:=vO (k:=kb) (f:=fun v=>.cells e2 v (yR cs2 c (t.sv x))) a4 hkb2 ⟨rfl,xG (a4.cells _ _ _ _ hkb2) (qIL t x)⟩;have hk2:=zP hkb2;have hk1:=zP hkb;have hsub:=q6Y a1 kb _ hk2
 have hcs:qB cs2=qB cs:=by
  rw[hk1] at hsub;injection hsub with q;injection q with q1 q2 q3;exact q3.symm
 refine⟨env,h'.put kb fun v=>.cells e2 v (yR cs2 c (t.sv x)),?_,⟨qI hp2.1 (qI a3 he),hp2.2,a3.trans hp2.1,fun _ _=>rfl,rfl⟩,e1⟩
 have:=Wk.zMT (P:=P) (nm:=nm) (env:=qB env) kb c ty hk2 hsp rfl (x:=v.enc) (by
  show zL (qB cs2) c=_
  rw[hcs,qW,hv];rfl) a1 hsub
 refine this.trans ?_
 have he2:xW kb ⟨(SO.cells e2 w2 cs2).enc.el,false,yR (SO.cells e2 w2 cs2).enc.cs c (rt1 P ty y)⟩ (qD h'.l)=qD ((h'.put kb fun v=>.cells e2 v (yR cs2 c (t.sv x))).l):=by
  show _=qD (sst kb _ h'.l);rw[xQ];simp[SO.enc,xZ,o8,a2]
 rw[he2];exact .refl _ _
def zCB (i:Nat)(env:List SV)(h:SH)(K:List SV->SH->zEY R):zEY R:=match zL env i with
 | some (.d (.list el (.int k)) xs)=>.ite (List.isEmpty xs) .fail (K (yR env i (.d (.ol el k) xs)) h)
 | _=>.fail
theorem q7J {K:List SV->SH->zEY R}(ho:OkH P h)(he:okL h env)(e:(zCB i env h K).run=some r) :
 ∃ env' h',Wk P nm (qB env) (qD h.l) (qB env') (qD h'.l)∧xL P [i] env h env' h'∧(K env' h').run=some r:=by
 unfold zCB at e;split at e
 ·rename_i el k xs hi
  rcases run_ite e with ⟨_,e1⟩ | ⟨hx,e1⟩
  ·cases e1
  ·refine⟨_,h,?_,⟨xG he (by simp[SV.ok]),ho,.refl _,fun j hj=>pV fun q=>hj (by rw[q];exact zRO j),jI _ _ _⟩,e1⟩
   have:qB (yR env i (.d (.ol el k) xs))=qB env:=by
    rw[xZ]
    have h2:(SV.d (.ol el k) xs).enc=(SV.d (.list el (.int k)) xs).enc:=by
     cases xs with
     | nil=>cases hx
     | cons x xs=>simp[SV.enc,Ty.fv,fvo,Ty.cells]
    rw[h2,qX]
    have h3:(qB env)[i]?=some (SV.d (.list el (.int k)) xs).enc:=by
     rw[<-qF,qW,hi];rfl
    obtain⟨h4,h5⟩:=zOO.1 h3;rw[<-h5,List.set_getElem_self]
   rw[this];exact .refl _ _
 ·cases e
omit [Yl] in
theorem Wk.ext {pe:List PV}{a b:PHp}(h:∀ l,qA l b=qA l a):Wk P nm pe a pe b:=fun Z H m vs hp hv=>by
 have e:own m b=own m a:=qAX h;exact⟨Z,m,by rw[e];exact hp,by rw[e];exact hv,by rw[e];exact .refl _ _ _,by rw[e];exact .refl _ _⟩
def olV (P:Program)(ty:TypeId):SV->Option (Option Bool×SV)
 | .d (.list el (.int k)) xs=>some (some (List.isEmpty xs),.d (.ol el k) xs)
 | .c (.slice none 0 0)=>(match zED P ty with
   | some (.ol el k)=>some (none,.d (.ol el k) [])
   | _=>none)
 | .d (.ol el k) xs=>some (none,.d (.ol el k) xs)
 | _=>none
theorem q66 {x:SV}{b:Option Bool}(e:olV P ty v=some (b,x))(hb:b≠some true):x.enc=v.enc∧∀ h,x.ok h:=by
 unfold olV at e;split at e
 ·rename_i el k xs;cases e;refine⟨?_,fun h=>by simp[SV.ok]⟩
  cases xs with
  | nil=>exact absurd rfl hb
  | cons x xs=>simp[SV.enc,Ty.fv,fvo,Ty.cells]
 ·split at e
  ·cases e;exact⟨by simp[SV.enc,Ty.fv,fvo,fvv],fun h=>by simp[SV.ok]⟩
  ·cases e
 ·cases e;exact⟨rfl,fun h=>by simp[SV.ok]⟩
 ·cases e
def q91 (P:Program)(i c:Nat)(ty:TypeId)(env:List SV)(h:SH)(K:List SV->SH->zEY R):zEY R:=match bxI env i with
 | some kb=>(match slk kb h.l with
   | some (.cells el _ cs)=>(match zL cs c with
     | some v=>(match olV P ty v with
       | some (some b,x)=>.ite b .fail (K env (h.put kb fun u=>.cells el u (yR cs c x)))
       | some (none,x)=>K env (h.put kb fun u=>.cells el u (yR cs c x))
       | none=>.fail)
     | none=>.fail)
   | _=>.fail)
 | _=>.fail
theorem qYE {K:List SV->SH->zEY R}(ho:OkH P h)(he:okL h env)(e:(q91 P i c ty env h K).run=some r) :
 ∃ env' h',Wk P nm (qB env) (qD h.l) (qB env') (qD h'.l)∧xL P [i] env h env' h'∧(K env' h').run=some r:=by
 unfold q91 at e;split at e
 case h_2=>cases e
 rename_i kb hi;split at e
 case h_2=>cases e
 rename_i el w0 cs hk;split at e
 case h_2=>cases e
 rename_i v hv
 have fin:∀ {b:Option Bool} {x:SV},olV P ty v=some (b,x)->b≠some true->(K env (h.put kb fun u=>.cells el u (yR cs c x))).run=some r->∃ env' h',Wk P nm (qB env) (qD h.l) (qB env') (qD h'.l)∧xL P [i] env h env' h'∧(K env' h').run=some r:=fun {b x} hx hb e=>by
  obtain⟨h1,h2⟩:=q66 hx hb;have hp:=vO (k:=kb) (f:=fun u=>.cells el u (yR cs c x)) ho hk ⟨rfl,xG (ho.cells _ _ _ _ hk) (h2 h)⟩;refine⟨env,_,Wk.ext fun l=>?_,⟨qI hp.1 he,hp.2,hp.1,fun _ _=>rfl,rfl⟩,e⟩;show qA l (qD (sst kb _ h.l))=_;rw[xQ,zD];split
  ·rename_i q;rw[q.1,zP hk];show some (⟨el,false,qB (yR cs c x)⟩:PO)=some ⟨el,false,qB cs⟩;rw[xZ,h1,qX];have h3:(qB cs)[c]?=some v.enc:=by rw[<-qF,qW,hv];rfl
   obtain⟨h4,h5⟩:=zOO.1 h3;rw[<-h5,List.set_getElem_self]
  ·rfl
 split at e
 ·rename_i b x hx
  rcases run_ite e with ⟨_,e1⟩ | ⟨hb,e1⟩
  ·cases e1
  ·exact fin hx (by rw[hb];simp) e1
 ·rename_i x hx;exact fin hx (by simp) e
 ·cases e
def q25 (i c:Nat)(env:List SV)(h:SH):Bool:=match bxI env i with
 | some kb=>(match slk kb h.l with
   | some (.cells _ _ cs)=>(match zL cs c with
     | some (.own _ _ _)=>true
     | some (.sl _ _ _ _ _)=>true
     | _=>false)
   | _=>false)
 | none=>false
def zB0 (P:Program)(i c:Nat)(ty:TypeId)(env:List SV)(h:SH)(K:List SV->SH->zEY R):zEY R:=cond (q25 i c env h) (q8C P i c ty env h fun env h=>q91 P i c ty env h K) (q91 P i c ty env h K)
theorem q6B {K:List SV->SH->zEY R}(ho:OkH P h)(he:okL h env)(e:(zB0 P i c ty env h K).run=some r) :
 ∃ env' h',Wk P nm (qB env) (qD h.l) (qB env') (qD h'.l)∧xL P [i] env h env' h'∧(K env' h').run=some r:=by
 unfold zB0 at e
 cases hb:q25 i c env h with
 | true =>
   rw[hb] at e;obtain⟨zE4,h1,a,b,e1⟩:=qUR (nm:=nm) ho he (show (q8C P i c ty env h fun env h=>q91 P i c ty env h K).run=some r from e);obtain⟨zFH,h2,a2,b2,e2⟩:=qYE (nm:=nm) b.2.1 b.1 e1;exact⟨zFH,h2,a.trans a2,(b.trans b2).up fun i hi=>by simpa using hi,e2⟩
 | false =>
   rw[hb] at e;exact qYE ho he e
def qBB (P:Program)(nm:Nm):List (Nat×Nat×TypeId×Nat)->List SV->SH->(List SV->SH->zEY R)->zEY R
 | [],env,h,K=>K env h
 | (kb,i,el,k)::l,env,h,K=>match slk kb h.l with
   | some (.cells e _ cs)=>(match zL cs i with
     | some v=>cond (qEU v) (match szT P el,qD3 P 8 el with
       | some (s+1),some t=>cond (Nat.beq t.w (s+1)&&(qE8 nm k env h&&(!Nat.beq k kb&&!spec P e))) (qBB P nm l env ((h.new k fun v=>.list el true v v t []).put kb fun v=>.cells e v (yR cs i (.own k h.next 0))) K) .fail
       | _,_=>.fail) (qBB P nm l env h K)
     | none=>.fail)
   | _=>.fail
theorem nA:∀ {l:List (Nat×Nat×TypeId×Nat)} {env:List SV} {h:SH} {K:List SV->SH->zEY R},OkH P h->okL h env->(qBB P nm l env h K).run=some r ->
 ∃ h',Wk P nm (qB env) (qD h.l) (qB env) (qD h'.l)∧Keep h h'∧OkH P h'∧(K env h').run=some r
 | [],env,h,K,ho,he,e=>⟨h,.refl _ _,.refl _,ho,e⟩
 | (kb,i,el,k)::l,env,h,K,ho,he,e=>by
   unfold qBB at e;split at e
   case h_2=>cases e
   rename_i eb wb cs hkb;split at e
   case h_2=>cases e
   rename_i v hv
   cases hn:qEU v with
   | false =>
     rw[hn] at e;exact nA (l:=l) ho he e
   | true =>
     rw[hn] at e;simp only[cond_true] at e;split at e
     case h_2=>cases e
     rename_i s t hs ht;obtain⟨c,e1⟩:=qG e;simp only[zOG] at c;have hw:t.w=s+1:=zOH c.1
     have hne:k≠kb:=fun q=>by
      have:=c.2.2.1;rw[q,aC] at this;cases this
     have hsp:spec P eb=false:=by simpa using c.2.2.2
     have hn2:=xI (k:=k) (f:=fun v=>.list el true v v t []) ho ⟨rfl,rfl,by rw[hs,hw],by omega⟩;have hok:(SV.own k h.next 0).ok (h.new k fun v=>.list el true v v t []):=wF (xs:=([]:List t.sem)) rfl
     have zMV:slk kb (h.new k fun v=>.list el true v v t []).l=some (.cells eb wb cs):=by
      rw[show slk kb (h.new k fun v=>.list el true v v t []).l=slk kb h.l from yD hne.symm];exact hkb
     have hcs:okL (h.new k fun v=>.list el true v v t []) cs:=qI hn2.1 (ho.cells _ _ _ _ hkb);have hp2:=vO (k:=kb) (f:=fun v=>.cells eb v (yR cs i (.own k h.next 0))) hn2.2 zMV ⟨rfl,xG hcs hok⟩
     have hfr:fresh nm k (qB env) (qD h.l)=true:=by
      have c2:=c.2.1;unfold qE8 at c2;simp only[zOG] at c2;unfold fresh;rw[c2.1,c2.2.1,jL c2.2.2];rfl
     obtain⟨h',b1,b2,b3,b4⟩:=nA (l:=l) hp2.2 (qI hp2.1 (qI hn2.1 he)) e1;refine⟨h',?_,hn2.1.trans (hp2.1.trans b2),b3,b4⟩;have hk:=zP hkb
     have:=Wk.zLG (P:=P) (nm:=nm) (env:=qB env) kb i k el hk hsp rfl (by
      show zL (qB cs) i=_
      rw[qW,hv,zOW,qEY hn]) hs hfr hne
     refine Wk.trans this ?_
     have he2:(k,(⟨el,true,[]⟩:PO))::xW kb ⟨(SO.cells eb wb cs).enc.el,false,yR (SO.cells eb wb cs).enc.cs i (.own k 0 0 0)⟩ (qD h.l)=qD (((h.new k fun v=>.list el true v v t []).put kb fun v=>.cells eb v (yR cs i (.own k h.next 0))).l):=by
      show _=qD (sst kb _ ((k,_)::h.l));have:(kb==k)=false:=by simpa using hne.symm
      show _=qD (cond (kb==k) _ ((k,_)::sst kb _ h.l));rw[this];show _=(k,_)::qD (sst kb _ h.l);rw[xQ];simp[SO.enc,xZ,SV.enc]
     rw[he2];exact b1
def unB (c:Nat):Nat×Nat×TypeId×Nat:=((c / 1000000) % 10000000,(c / 100000) % 10,c % 100000,c / 10000000000000)
def fzv (P:Program)(nm:Nm):List (Nat×TypeId)->List SV->SH->(List SV->SH->zEY R)->zEY R
 | [],env,h,K=>K env h
 | (i,ty)::l,env,h,K=>cond (Nat.ble 2000000000 ty) (cond (Nat.ble 3000000000 ty) (cond (Nat.ble 4000000000 ty) (cond (Nat.ble 5000000000 ty) (cond (Nat.ble 6000000000 ty) (cond (Nat.ble 7000000000000 ty) (qBB P nm [unB (ty - 7000000000000)] env h fun env h=>fzv P nm l env h K) (zB0 P i ((ty - 6000000000) / 100000) ((ty - 6000000000) % 100000) env h fun env h=>fzv P nm l env h K)) (zCB i env h fun env h=>fzv P nm l env h K)) (q8C P i ((ty - 4000000000) / 100000) ((ty - 4000000000) % 100000) env h fun env h=>fzv P nm l env h K)) (fzv P nm l (yR env i .unk) h K)) (zBV P nm i env h fun env h=>fzv P nm l env h K)) <| cond (Nat.ble 1000000000 ty) (qRE P nm [(i,ty - 1000000000)] env h fun env h=>fzv P nm l env h K) (fzs P [(i,ty)] env h fun env h=>fzv P nm l env h K)
theorem qP6:∀ {l:List (Nat×TypeId)} {env:List SV} {h:SH} {K:List SV->SH->zEY R},OkH P h->okL h env->(fzv P nm l env h K).run=some r ->
 ∃ env' h',Wk P nm (qB env) (qD h.l) (qB env') (qD h'.l)∧xL P (l.map (·.1)) env h env' h'∧(K env' h').run=some r
 | [],env,h,K,ho,he,e=>⟨env,h,.refl _ _,.refl ho he,e⟩
 | (i,ty)::l,env,h,K,ho,he,e=>by
   unfold fzv at e
   have go:∀ {zE4 h1},Wk P nm (qB env) (qD h.l) (qB zE4) (qD h1.l)->xL P [i] env h zE4 h1->(fzv P nm l zE4 h1 K).run=some r->∃ env' h',Wk P nm (qB env) (qD h.l) (qB env') (qD h'.l)∧xL P (((i,ty)::l).map (·.1)) env h env' h'∧(K env' h').run=some r:=fun a b e=>by
    obtain⟨env',h',c1,c2,c3⟩:=qP6 (l:=l) b.2.1 b.1 e;exact⟨env',h',a.trans c1,b.trans c2,c3⟩
   cases hb2:Nat.ble 2000000000 ty with
   | true =>
     rw[hb2] at e
     cases hb3:Nat.ble 3000000000 ty with
     | true =>
       rw[hb3] at e
       cases hb4:Nat.ble 4000000000 ty with
       | true =>
         rw[hb4] at e
         cases hb5:Nat.ble 5000000000 ty with
         | true =>
           rw[hb5] at e
           cases hb6:Nat.ble 6000000000 ty with
           | true =>
             rw[hb6] at e
             cases hb7:Nat.ble 7000000000000 ty with
             | true =>
               rw[hb7] at e;have e:(qBB P nm [unB (ty - 7000000000000)] env h fun env h=>fzv P nm l env h K).run=some r:=e;obtain⟨h1,a,b,c,e1⟩:=nA (nm:=nm) ho he e;exact go a ⟨qI b he,c,b,fun _ _=>rfl,rfl⟩ e1
             | false =>
               rw[hb7] at e;have e:(zB0 P i ((ty - 6000000000) / 100000) ((ty - 6000000000) % 100000) env h fun env h=>fzv P nm l env h K).run=some r:=e;obtain⟨zE4,h1,a,b,e1⟩:=q6B (nm:=nm) ho he e;exact go a b e1
           | false =>
             rw[hb6] at e;have e:(zCB i env h fun env h=>fzv P nm l env h K).run=some r:=e;obtain⟨zE4,h1,a,b,e1⟩:=q7J (nm:=nm) ho he e;exact go a b e1
         | false =>
         rw[hb5] at e;have e:(q8C P i ((ty - 4000000000) / 100000) ((ty - 4000000000) % 100000) env h fun env h=>fzv P nm l env h K).run=some r:=e;obtain⟨zE4,h1,a,b,e1⟩:=qUR (nm:=nm) ho he e;exact go a b e1
       | false =>
         rw[hb4] at e;obtain⟨a,b⟩:=qWY (nm:=nm) (i:=i) ho he;exact go a b e
     | false =>
       rw[hb3] at e;have e:(zBV P nm i env h fun env h=>fzv P nm l env h K).run=some r:=e;obtain⟨zE4,h1,a,b,e1⟩:=q5K (nm:=nm) ho he e;exact go a b e1
   | false =>
   rw[hb2] at e
   cases hb:Nat.ble 1000000000 ty with
   | true =>
     rw[hb] at e;obtain⟨zE4,h1,a,b,e1⟩:=qAA (nm:=nm) ho he e;exact go a b e1
   | false =>
     rw[hb] at e;obtain⟨zE4,h1,a,b,e1⟩:=q3W (nm:=nm) ho he e;exact go a b e1
def qFY (P:Program):List Nat->SH->SH
 | [],h=>h
 | kb::l,h=>match slk kb h.l with
   | some (.cells el _ cs)=>(match qD3 P 8 el with
     | some t=>(match t.zHN cs with
       | some x=>qFY P l (h.put kb fun v=>.cells el v (t.svs x))
       | none=>qFY P l h)
     | none=>qFY P l h)
   | _=>qFY P l h
theorem oP:∀ {bs:List Nat} {h:SH},OkH P h->Keep h (qFY P bs h)∧OkH P (qFY P bs h)∧∀ l,qA l (qD (qFY P bs h).l)=qA l (qD h.l)
 | [],h,ho=>⟨.refl _,ho,fun _=>rfl⟩
 | kb::bs,h,ho=>by
   unfold qFY;split
   ·rename_i el w cs hk;split
    ·rename_i t ht;split
     ·rename_i x hx;have hp:=vO (k:=kb) (f:=fun v=>.cells el v (t.svs x)) ho hk ⟨rfl,qDR t x⟩;obtain⟨a1,a2,a3⟩:=oP (bs:=bs) hp.2;refine⟨hp.1.trans a1,a2,fun l=>(a3 l).trans ?_⟩;show qA l (qD (sst kb _ h.l))=_;rw[xQ,zD];split
      ·rename_i e;rw[e.1,zP hk];show some (⟨el,false,qB (t.svs x)⟩:PO)=some ⟨el,false,qB cs⟩;rw[gX,nD hx]
      ·rfl
     ·exact oP (bs:=bs) ho
    ·exact oP (bs:=bs) ho
   ·exact oP (bs:=bs) ho
def qV4 (P:Program)(nm:Nm)(bs:List Nat)(bv:List (Nat×Nat×TypeId×Nat))(env:List SV)(h:SH)(K:List SV->SH->zEY R):zEY R:=qBB P nm bv env h fun env h=>K env (qFY P bs h)
theorem qH8 {bs:List Nat}{l:List (Nat×Nat×TypeId×Nat)}{K:List SV->SH->zEY R}(ho:OkH P h)(he:okL h env)(e:(qV4 P nm bs l env h K).run=some r) :
 ∃ h',Wk P nm (qB env) (qD h.l) (qB env) (qD h'.l)∧Keep h h'∧OkH P h'∧(K env h').run=some r:=by
 obtain⟨h',a1,a2,a3,a4⟩:=nA (nm:=nm) ho he e;obtain⟨b1,b2,b3⟩:=oP (bs:=bs) a3;exact⟨_,a1.trans (.ext b3),a2.trans b1,b2,a4⟩
end
end Go.Sv
namespace Go.Sv
open Go.Idl
noncomputable section
variable [Gc]
variable [Yl]
variable {P:Program}{R:Type}{r:R}{nm:Nm}
def zDX:SV->Option Ty
 | .d t _=>cond t.one (some t) none
 | .c (.int k _)=>some (.int k)
 | .c (.bool _)=>some .bool
 | .c (.string _)=>some .str
 | _=>none
def tyV:SV->Option Ty
 | .agg l=>tyL (l.map zDX)
 | v=>zDX v
def zC2:List SV->Option (List Ty)
 | []=>some []
 | v::l=>match tyV v,zC2 l with
   | some t,some ts=>some (t::ts)
   | _,_=>none
def zBU (t:Ty)(v:SV):Option t.sem:=cond t.one (t.zJD v) (match v with
 | .agg l=>t.zHN l
 | _=>none)
theorem qOP {t:Ty}{v:SV}{x:t.sem}(e:zBU t v=some x):v.enc=t.pv x:=by
 unfold zBU at e;unfold Ty.pv
 cases ht:t.one with
 | true=>rw[ht] at e;exact (tL e).1
 | false =>
   rw[ht] at e;simp only[cond_false] at e ⊢;split at e
   ·simp only[SV.enc,nD e]
   ·cases e
def tK:(ts:List Ty)->List SV->Option (TyL ts)
 | [],[]=>some ()
 | [t],[v]=>zBU t v
 | t::u::ts,v::vs=>match zBU t v with
   | some x=>(match tK (u::ts) vs with
     | some y=>some (x,y)
     | none=>none)
   | none=>none
 | _,_=>none
theorem aK:∀ {ts:List Ty} {l:List SV} {s:TyL ts},tK ts l=some s->qB l=qB (svL ts s)
 | [],[],s,e=>by simp[svL]
 | [t],[v],s,e=>by
   unfold tK at e;simp only[svL,qB,o8,qOP e]
 | t::u::ts,v::vs,s,e=>by
   unfold tK at e;split at e
   ·rename_i x hx;split at e
    ·rename_i y hy;cases e;have ih:=aK hy;show qB (v::vs)=qB (t.sv x::svL (u::ts) y);simp only[qB,o8,qOP hx,ih]
    ·cases e
   ·cases e
 | [],_::_,_,e=>by cases e
 | t::ts,[],_,e=>by cases ts <;> (unfold tK at e;cases e)
 | [_],_::_::_,_,e=>by unfold tK at e;cases e
def qF0:List Nat->List SV->Option (List SV)
 | [],_=>some []
 | i::is,env=>match zL env i,qF0 is env with
   | some v,some l=>some (v::l)
   | _,_=>none
def spD:SpO->Option SV
 | .map es=>some (.d .raw es)
 | .iter s pos=>some (.agg [.d .str s,.d (.int .i64) (pos:Int)])
 | .mit _ _ _ _ _=>none
 | .arr el k xs=>cond (Nat.beq el 1000000001) none (some (.d (.list el (.int k)) xs))
def obD:SO->Option (SV×Bool)
 | .list el gr _ _ u xs=>cond (Nat.beq el 1000000001) none (some (.d (.list el u) xs,gr))
 | .spc _ x=>(spD x).map fun v=>(v,false)
 | .cells _ _ _=>none
def qS1:List Nat->SH->Option (List SV)
 | [],_=>some []
 | k::ks,h=>match slk k h.l,qS1 ks h with
   | some ob,some l=>(match obD ob with
     | some p=>some (p.1::l)
     | none=>none)
   | _,_=>none
def q64:List Nat->SH->Option (List (Nat×Bool))
 | [],_=>some []
 | k::ks,h=>match slk k h.l,q64 ks h with
   | some ob,some l=>(match obD ob with
     | some p=>some ((k,p.2)::l)
     | none=>none)
   | _,_=>none
def mX (i:Nat):List Nat->Bool
 | []=>false
 | j::l=>cond (Nat.beq i j) true (mX i l)
omit [Yl] in
theorem xK {i:Nat}:∀ {l:List Nat},mX i l=true ↔ i∈l
 | []=>by simp[mX]
 | j::l=>by
   unfold mX;rw[zO1]
   cases h:Nat.beq i j with
   | true=>simp[zOH h]
   | false =>
     have:i≠j:=fun e=>by subst e;rw[aC] at h;cases h
     simp only[cond_false,xK (l:=l),this,false_or]
def blank (W:List Nat):Nat->List SV->List SV
 | _,[]=>[]
 | i,x::l=>cond (mX i W) .unk x::blank W (i+1) l
omit [Yl] in
theorem qCR (W:List Nat):∀ (i:Nat) (l:List SV),(blank W i l).length=l.length
 | _,[]=>rfl
 | i,x::l=>by simp[blank,qCR W (i+1) l]
omit [Yl] in
theorem qA4 (W:List Nat):∀ (i j:Nat) (l:List SV),zL (blank W i l) j=(zL l j).map fun x=>cond (mX (i+j) W) SV.unk x
 | _,_,[]=>rfl
 | i,0,x::l=>rfl
 | i,j+1,x::l=>by
   show zL (blank W (i+1) l) j=(zL l j).map _;rw[qA4 W (i+1) j l,zQG,zRB 1 j]
omit [Yl] in
theorem qOO {h:SH}{W:List Nat}:∀ {i:Nat} {l:List SV},okL h l->okL h (blank W i l)
 | _,[],_=>by simp[blank,okL]
 | i,x::l,hl=>by
   simp only[okL] at hl;show okL h (cond (mX i W) .unk x::blank W (i+1) l);simp only[okL];refine⟨?_,qOO hl.2⟩;cases mX i W
   ·exact hl.1
   ·simp[SV.ok]
def dI:List Nat->List SV->List SV->List SV×List SV
 | [],l,env=>(env,l)
 | i::is,c::l,env=>dI is l (yR env i c)
 | _::_,[],env=>(env,[])
def q9R (el:TypeId):(u:Ty)->List u.sem->Bool->Option (Nat->SO)
 | .int k,xs,false=>cond (Nat.beq el 1000000001) none (some fun v=>.spc v (.arr el k xs))
 | _,_,_=>none
omit [Yl] in
theorem qKI {el:TypeId}:∀ {u:Ty} {xs:List u.sem} {gr:Bool} {f:Nat->SO},q9R el u xs gr=some f->∃ k,∃ ys:List Int,(∀ v,f v=.spc v (.arr el k ys))∧gr=false∧Nat.beq el 1000000001=false∧(⟨u,xs⟩:(u:Ty)×List u.sem)=⟨.int k,ys⟩
 | .int k,xs,false,f,e=>by
   have e:cond (Nat.beq el 1000000001) none (some fun v=>SO.spc v (.arr el k xs))=some f:=e
   cases hc:Nat.beq el 1000000001 with
   | true=>rw[hc] at e;cases e
   | false =>
     rw[hc] at e;cases e;exact⟨k,xs,fun v=>rfl,rfl,rfl,rfl⟩
 | .int k,xs,true,f,e=>by cases e
 | .bool,_,_,_,e=>by cases e
 | .str,_,_,_,e=>by cases e
 | .raw,_,_,_,e=>by cases e
 | .nif,_,_,_,e=>by cases e
 | .unit,_,_,_,e=>by cases e
 | .ol _ _,_,_,_,e=>by cases e
 | .list _ _,_,_,_,e=>by cases e
 | .pair _ _,_,_,_,e=>by cases e
def q8I (P:Program)(gr:Bool):SV->Option (Nat->SO)
 | .d (.list el u) xs=>(match szT P el with
   | some n=>cond (Nat.beq n u.w&&(Nat.ble 1 n&&!Nat.beq el 1000000001)) (some fun v=>.list el gr v v u xs) (q9R el u xs gr)
   | none=>none)
 | .d .raw es=>some fun v=>.spc v (.map es)
 | .agg [.d .str s,.d (.int .i64) p]=>some fun v=>.spc v (.iter s (Int.toNat p))
 | _=>none
def q7W (P:Program):List (Nat×Bool)->List SV->SH->Option SH
 | [],[]=>fun h=>some h
 | (k,gr)::ks,c::l=>fun h=>(match q8I P gr c with
   | some f=>q7W P ks l ((h.del k).new k f)
   | none=>none)
 | _,_=>fun _=>none
def mkM:Nat:=1000000000000000
def q4A:List (Nat×Nat)->SH->List SV->Option (List SV)
 | [],_,env=>some env
 | (i,k)::l,h,env=>cond (Nat.ble mkM k) (q4A l h (yR env i (.mp (k - mkM)))) (match slk k h.l with
   | some (.list _ _ g _ _ xs)=>q4A l h (yR env i (.own k g (List.length xs)))
   | _=>none)
def q9K (j:Nat):Bool:=Nat.beq j 1000000000
def zDN (k w:Nat):SV->Option Bool
 | .ref k' off w'=>cond (Nat.beq k k'&&(Nat.beq off 0&&Nat.beq w w')) (some true) none
 | .c (.pointer none)=>some false
 | .opt b k' off w'=>cond (Nat.beq k k'&&(Nat.beq off 0&&Nat.beq w w')) (some b) none
 | _=>none
theorem q2B {k w:Nat}{v:SV}{b:Bool}(e:zDN k w v=some b):v.enc=(SV.opt b k 0 w).enc:=by
 have eqs:∀ {k' off w':Nat} {x y:Option Bool},cond (Nat.beq k k'&&(Nat.beq off 0&&Nat.beq w w')) x none=y->y≠none->k=k'∧off=0∧w=w'∧x=y:=fun {k' off w' x y} h hy=>by
  cases hc:(Nat.beq k k'&&(Nat.beq off 0&&Nat.beq w w')) with
  | false=>rw[hc] at h;exact absurd h.symm hy
  | true =>
    rw[hc] at h;simp only[zOG] at hc;exact⟨zOH hc.1,zOH hc.2.1,zOH hc.2.2,h⟩
 unfold zDN at e;split at e
 ·obtain⟨rfl,rfl,rfl,h⟩:=eqs e (by simp);cases h;simp[SV.enc]
 ·cases e;simp[SV.enc]
 ·obtain⟨rfl,rfl,rfl,h⟩:=eqs e (by simp);cases h;simp[SV.enc]
 ·cases e
def qRA:Nat:=2000000000000000
def q20 (k:Nat):Nat:=cond (Nat.ble qRA k) (k - qRA) k
def q97:SV->Option Nat
 | .own _ _ n=>some n
 | .sl _ _ _ o m=>cond (Nat.beq o 0) (some m) none
 | _=>none
def qYW (k w:Nat):List (Option Nat)->List SV->Option (List SV)
 | [],[]=>some []
 | none::ds,v::l=>(match qYW k w ds l with
   | some r=>some (v::r)
   | none=>none)
 | some j::ds,v::l=>cond (q9K j) (match zDN k w v,qYW k w ds l with
   | some b,some r=>some (.d .bool b::r)
   | _,_=>none) (cond (Nat.ble qRA j) (match q97 v,qYW k w ds l with
   | some m,some r=>some (.d (.int .i64) (m:Int)::r)
   | _,_=>none) (qYW k w ds l))
 | _,_=>none
def qDL (k:Nat)(v:SV)(h:SH):Bool:=match v with
 | .own k' g _=>Nat.beq k' k&&(match slk k' h.l with
   | some (.list _ _ g' _ _ _)=>Nat.beq g g'
   | _=>false)
 | _=>false
def q3P (k:Nat)(v:SV)(h:SH):Bool:=match v with
 | .own k' g n=>qDL k (.own k' g n) h
 | .sl k' g n _ _=>qDL k (.own k' g n) h
 | _=>false
def q4K:List (Option Nat)->List SV->SH->Bool
 | some k::ds,v::l,h=>cond (q9K k) true (cond (Nat.ble qRA k) (q3P (k - qRA) v h) (qDL k v h))&&q4K ds l h
 | none::ds,_::l,h=>q4K ds l h
 | _,_,_=>true
def mkB (kb w:Nat):List (Option Nat)->List SV->SH->Option (List SV×List SV)
 | [],l,_=>some ([],l)
 | none::ds,c::l,h=>(match mkB kb w ds l h with
   | some p=>some (c::p.1,p.2)
   | none=>none)
 | some k::ds,l,h=>cond (q9K k) (match l with
   | c::l'=>(match asB c,mkB kb w ds l' h with
     | some b,some p=>some (.opt b kb 0 w::p.1,p.2)
     | _,_=>none)
   | []=>none) (cond (Nat.ble qRA k) (match l with
   | c::l'=>(match asI c,slk (k - qRA) h.l,mkB kb w ds l' h with
     | some (.i64,m),some (.list _ _ g _ _ xs),some p=>some (.sl (k - qRA) g (List.length xs) 0 (Nat.min (Int.toNat m) (List.length xs))::p.1,p.2)
     | _,_,_=>none)
   | []=>none) (match slk k h.l with
   | some (.list _ _ g _ _ xs)=>(match mkB kb w ds l h with
     | some p=>some (.own k g (List.length xs)::p.1,p.2)
     | none=>none)
   | _=>none))
 | none::_,[],_=>none
def q8E (h1:SH):List (Nat×List (Option Nat))->List SV->SH->Option SH
 | [],_,h=>some h
 | (k,ds)::bs,l,h=>match slk k h1.l with
   | some (.cells el _ _)=>(match mkB k (List.length ds) ds l h with
     | some p=>q8E h1 bs p.2 ((h.del k).new k fun v=>.cells el v p.1)
     | none=>none)
   | _=>none
def qY1:List (Nat×List (Option Nat))->SH->Option (List SV)
 | [],_=>some []
 | (k,ds)::bs,h=>match slk k h.l with
   | some (.cells _ _ l)=>(match qYW k (List.length ds) ds l,qY1 bs h with
     | some a,some b=>some (a++b)
     | _,_=>none)
   | _=>none
def mE (L:List Nat)(bs:List (Nat×List (Option Nat)))(h1 h:SH):Bool:=bs.all fun p=>mX p.1 L&&((p.2.all fun x=>match x with
 | some k=>!mX (q20 k) L
 | none=>true)&&(match slk p.1 h1.l,slk p.1 h.l with
 | some (.cells e1 _ _),some (.cells e2 _ l)=>Nat.beq e1 e2&&q4K p.2 l h
 | _,_=>false))
def mkS (P:Program)(W:List Nat)(sh:Sh)(ts:List Ty)(os:List (Nat×Bool))(env:List SV)(h:SH)(s:TyL ts):Option (List SV×SH) :=
 match q7W P os ((dI sh.d (svL ts s) (blank W 0 env)).2.take os.length) h with
 | some h2=>(match q8E h sh.b ((dI sh.d (svL ts s) (blank W 0 env)).2.drop os.length) h2 with
   | some h3=>(match q4A sh.s h3 (dI sh.d (svL ts s) (blank W 0 env)).1 with
     | some e2=>some (e2,h3)
     | none=>none)
   | none=>none)
 | none=>none
omit [Yl] in
theorem qFC {l m:List PV}{i:Nat}{x:PV}(h:WkP l m)(hx:zL l i=some x):WkP l (yR m i x):=by
 rw[qX];rw[qF] at hx
 have hl:l.length=(m.set i x).length:=by
  rw[zPR];clear hx
  induction h with
  | nil=>rfl
  | same _ ih=>simp[ih]
  | any _ ih=>simp[ih]
 have hp:∀ j:Nat,m[j]?=l[j]?∨m[j]?=some PV.unk:=by
  clear hx hl
  induction h with
  | nil=>intro j;exact .inl rfl
  | same _ ih=>intro j;cases j with
    | zero=>exact .inl rfl
    | succ j=>exact ih j
  | any _ ih=>intro j;cases j with
    | zero=>exact .inr rfl
    | succ j=>exact ih j
 refine qQ6 hl fun j=>?_
 rw[qF,qF,zPA];by_cases e:i=j
 ·subst e;rw[if_pos rfl];split
  ·exact .inl hx.symm
  ·rename_i hlt;have hlt':i < l.length:=(zOO.1 hx).1;rw[hl,zPR] at hlt';exact absurd hlt' hlt
 ·rw[if_neg e];exact hp j
theorem qLK:∀ {is:List Nat} {env l b m rest:List SV},qF0 is env=some l->qB (l++b)=qB m->WkP (qB env) (qB rest)->WkP (qB env) (qB (dI is m rest).1)∧qB (dI is m rest).2=qB b
 | [],env,l,b,m,rest,e,hm,hw=>by
   cases e;exact⟨hw,hm.symm⟩
 | i::is,env,l,b,m,rest,e,hm,hw=>by
   unfold qF0 at e;split at e
   ·rename_i v l' hv hl';cases e
    cases m with
    | nil=>simp[qB] at hm
    | cons c m =>
      simp only[zQN,qB,zPD] at hm;show WkP (qB env) (qB (dI is m (yR rest i c)).1)∧qB (dI is m (yR rest i c)).2=qB b;refine qLK hl' hm.2 ?_;rw[xZ,<-hm.1];exact qFC hw (by rw[qW,hv];rfl)
   ·cases e
omit [Yl] in
theorem qFB:∀ (is:List Nat) (l env:List SV),(dI is l env).1.length=env.length
 | [],l,env=>rfl
 | i::is,[],env=>rfl
 | i::is,c::l,env=>by
   show (dI is l (yR env i c)).1.length=_;rw[qFB is l,jI]
omit [Yl] in
theorem qL5 {h:SH}:∀ {is:List Nat} {l env:List SV},okL h l->okL h env->okL h (dI is l env).1
 | [],l,env,_,he=>he
 | i::is,[],env,_,he=>he
 | i::is,c::l,env,hl,he=>by
   simp only[okL] at hl;show okL h (dI is l (yR env i c)).1;exact qL5 hl.2 (xG he hl.1)
omit [Yl] in
theorem qF3:∀ {is:List Nat} {l env:List SV} {j:Nat},j ∉ is->zL (dI is l env).1 j=zL env j
 | [],l,env,j,_=>rfl
 | i::is,[],env,j,_=>rfl
 | i::is,c::l,env,j,hj=>by
   rw[zO1,not_or] at hj;show zL (dI is l (yR env i c)).1 j=_;rw[qF3 hj.2,qX,qF,qF,zPA,if_neg (fun e=>hj.1 e.symm)]
omit [Yl] in
theorem qK1 {k:Nat}{gr:Bool}{ks:List (Nat×Bool)}{c:SV}{l:List SV}{h h2:SH}(e:q7W P ((k,gr)::ks) (c::l) h=some h2) :
 ∃ f,q8I P gr c=some f∧q7W P ks l ((h.del k).new k f)=some h2:=by
 unfold q7W at e;split at e
 ·rename_i f hf;exact⟨f,hf,e⟩
 ·cases e
omit [Yl] in
theorem qZS {gr:Bool}{c:SV}{f:Nat->SO}(e:q8I P gr c=some f)(h:SH)(n:Nat):q89 P h n (f n):=by
 unfold q8I at e;split at e
 ·rename_i el u xs;split at e
  ·rename_i m hm
   cases hc:(Nat.beq m u.w&&(Nat.ble 1 m&&!Nat.beq el 1000000001)) with
   | false =>
     rw[hc] at e;obtain⟨k,ys,h1,_⟩:=qKI e;rw[h1];rfl
   | true =>
     rw[hc] at e;cases e;simp only[zOG] at hc;have hw:m=u.w:=zOH hc.1;have h1:=zOQ hc.2.1;exact⟨rfl,rfl,by rw[hm,hw],by omega⟩
  ·cases e
 ·cases e;rfl
 ·cases e;rfl
 ·cases e
omit [Yl] in
theorem qMP:∀ {os:List (Nat×Bool)} {l:List SV} {h h2:SH},OkH P h->q7W P os l h=some h2->Keep h h2∧OkH P h2∧∀ k,k ∉ os.map (·.1)->slk k h2.l=slk k h.l
 | [],[],h,h2,ho,e=>by cases e;exact⟨.refl _,ho,fun _ _=>rfl⟩
 | (k,gr)::ks,c::l,h,h2,ho,e=>by
   obtain⟨f,hf,e1⟩:=qK1 e;have hd:=gU (k:=k) ho;have hn2:=xI (h:=h.del k) (k:=k) (f:=f) hd.2 (qZS hf _ _);obtain⟨a1,a2,a3⟩:=qMP hn2.2 e1;refine⟨hd.1.trans (hn2.1.trans a1),a2,fun j hj=>?_⟩;rw[zOZ,zO1,not_or] at hj;rw[a3 j hj.2];show slk j ((k,_)::(h.del k).l)=_;rw[yD hj.1];exact kN hj.1 _
 | [],_::_,_,_,_,e=>by cases e
 | _::_,[],_,_,_,e=>by cases e
def q0M:List FV->List (Value×Value)
 | .v k::.v x::l=>(k,x)::q0M l
 | _=>[]
omit [Yl] in
theorem qGG:∀ (es:List (Value×Value)),q0M (dM es)=es
 | []=>rfl
 | p::es=>by
   show (p.1,p.2)::q0M (dM es)=_;rw[qGG es]
def obE (gr:Bool):PV->Option PO
 | .f (.l el _ cs)=>cond (Nat.beq el 1000000001) (some (SpO.map (q0M cs)).enc) (some ⟨el,gr,cs.map .f⟩)
 | .agg [.f (.v (.string s)),.f (.v (.int _ p))]=>some (SpO.iter s p.toNat).enc
 | _=>none
theorem zBH {gr:Bool}{c:SV}{f:Nat->SO}(e:q8I P gr c=some f)(n:Nat):obE gr c.enc=some (f n).enc:=by
 unfold q8I at e;split at e
 ·rename_i el u xs;split at e
  ·rename_i m hm
   cases hc:(Nat.beq m u.w&&(Nat.ble 1 m&&!Nat.beq el 1000000001)) with
   | false =>
     rw[hc] at e;obtain⟨k,ys,h1,rfl,h2,h3⟩:=qKI e;cases h3;rw[h1];simp only[SV.enc,Ty.fv,obE,h2,cond_false];show some (PO.mk el false ((List.flatMap (Ty.int k).cells ys).map .f))=some ⟨el,false,ys.map fun x=>fvv (.int k x)⟩;rw[q1I,zQP];rfl
   | true =>
     rw[hc] at e;cases e;simp only[zOG,zO3] at hc;simp only[SV.enc,Ty.fv,obE,hc.2.2,cond_false];rfl
  ·cases e
 ·rename_i es;cases e;simp only[SV.enc,Ty.fv,obE];show cond (Nat.beq 1000000001 1000000001) _ _=_;rw[qGG];rfl
 ·cases e;simp only[SV.enc,qB,Ty.fv,obE];rfl
 ·cases e
theorem zDP {ob:SO}{p:SV×Bool}(e:obD ob=some p):obE p.2 p.1.enc=some ob.enc:=by
 unfold obD at e;split at e
 ·rename_i el gr g w u xs
  cases hc:Nat.beq el 1000000001 with
  | true=>rw[hc] at e;cases e
  | false =>
    rw[hc] at e;cases e;simp only[SV.enc,Ty.fv,obE,hc,cond_false];rfl
 ·rename_i w x
  cases x with
  | map es =>
    cases e;simp only[SV.enc,Ty.fv,obE];show cond (Nat.beq 1000000001 1000000001) _ _=_;rw[qGG];rfl
  | iter s pos =>
    cases e;simp only[SV.enc,qB,Ty.fv,obE];rfl
  | mit t j si la seen=>cases e
  | arr el ik xs =>
    have e:(cond (Nat.beq el 1000000001) none (some (SV.d (.list el (.int ik)) xs))).map (fun v=>(v,false))=some p:=e
    cases hc:Nat.beq el 1000000001 with
    | true=>rw[hc] at e;cases e
    | false =>
      rw[hc] at e;cases e;simp only[SV.enc,Ty.fv,obE,hc,cond_false];show some (PO.mk el false ((List.flatMap (Ty.int ik).cells xs).map .f))=some ⟨el,false,xs.map fun x=>fvv (.int ik x)⟩;rw[q1I,zQP];rfl
 ·cases e
theorem qO0 {q:PHp}{B:Nat->Prop}:∀ {os:List (Nat×Bool)} {l:List SV} {h h2:SH},q7W P os l h=some h2->(∀ k o,¬ B k->k ∉ os.map (·.1)->slk k h.l=some o->qA k q=some o.enc) ->
 (∀ (i:Nat) k gr c,os[i]?=some (k,gr)->l[i]?=some c->qA k q=obE gr c.enc)->∀ k o,¬ B k->slk k h2.l=some o->qA k q=some o.enc
 | [],[],h,h2,e,h0,_,k,o,hB,hk=>by
   cases e;exact h0 k o hB (by simp) hk
 | (j,gr)::ks,c::l,h,h2,e,h0,h1,k,o,hB,hk=>by
   obtain⟨f,hf,e1⟩:=qK1 e;refine qO0 (q:=q) (B:=B) e1 (fun k2 o2 hB2 hk2 ho2=>?_) (fun i k2 gr2 c2 a1 a2=>h1 (i+1) k2 gr2 c2 (by simpa using a1) (by simpa using a2)) k o hB hk;by_cases hj:k2=j
   ·subst hj;rw[show slk k2 ((h.del k2).new k2 f).l=some (f (h.del k2).next) from kZ] at ho2;cases ho2;rw[h1 0 k2 gr c rfl rfl];exact zBH hf _
   ·rw[show slk k2 ((h.del j).new j f).l=slk k2 (h.del j).l from yD hj,show slk k2 (h.del j).l=slk k2 h.l from kN hj _] at ho2;exact h0 k2 o2 hB2 (by rw[zOZ,zO1,not_or];exact⟨hj,hk2⟩) ho2
 | [],_::_,_,_,e,_,_,_,_,_,_=>by cases e
 | _::_,[],_,_,e,_,_,_,_,_,_=>by cases e
omit [Yl] in
theorem qBS {h:SH}:∀ {is:List Nat} {l env:List SV},okL h l->okL h (dI is l env).2
 | [],l,env,hl=>hl
 | i::is,[],env,_=>by simp[dI,okL]
 | i::is,c::l,env,hl=>by
   simp only[okL] at hl;show okL h (dI is l (yR env i c)).2;exact qBS hl.2
omit [Yl] in
theorem qPW {h:SH}{l:List SV}(n:Nat)(hl:okL h l):okL h (l.drop n):=zM.2 fun x hx=>zM.1 hl x (zRK hx)
theorem qXI (l:List SV)(n:Nat):qB (l.take n)=(qB l).take n:=by rw[zH,zH,zQO]
theorem qUW (l:List SV)(n:Nat):qB (l.drop n)=(qB l).drop n:=by rw[zH,zH,zQT]
omit [Yl] in
theorem qL6 {h:SH}(ho:OkH P h):∀ {l:List (Nat×Nat)} {env e2:List SV},okL h env->q4A l h env=some e2->okL h e2∧e2.length=env.length∧∀ j,j ∉ l.map (·.1)->zL e2 j=zL env j
 | [],env,e2,he,e=>by cases e;exact⟨he,rfl,fun _ _=>rfl⟩
 | (i,k)::l,env,e2,he,e=>by
   unfold q4A at e
   cases hmk:Nat.ble mkM k with
   | true =>
     rw[hmk] at e;simp only[cond_true] at e;obtain⟨a1,a2,a3⟩:=qL6 ho (xG (t:=i) he (v:=.mp (k - mkM)) (by simp[SV.ok])) e;refine⟨a1,a2.trans (jI _ _ _),fun j hj=>?_⟩;rw[zOZ,zO1,not_or] at hj;rw[a3 j hj.2,qX,qF,qF,zPA,if_neg (fun e=>hj.1 e.symm)]
   | false =>
   rw[hmk] at e;simp only[cond_false] at e;split at e
   ·rename_i el gr g w u xs hk;have hg:=(ho.list _ _ _ _ _ _ _ hk).1
    have hok:(SV.own k g (List.length xs)).ok h:=by
     simp only[SV.ok];exact⟨hg,fun el2 gr2 w2 t2 xs2 hk2=>by rw[hk] at hk2;cases hk2;rfl⟩
    obtain⟨a1,a2,a3⟩:=qL6 ho (xG (t:=i) he hok) e;refine⟨a1,a2.trans (jI _ _ _),fun j hj=>?_⟩;rw[zOZ,zO1,not_or] at hj;rw[a3 j hj.2,qX,qF,qF,zPA,if_neg (fun e=>hj.1 e.symm)]
   ·cases e
omit [Yl] in
theorem qED {kb w:Nat}{h:SH}(ho:OkH P h):∀ {ds:List (Option Nat)} {l:List SV} {p:List SV×List SV},okL h l->mkB kb w ds l h=some p->okL h p.1∧okL h p.2
 | [],l,p,hl,e=>by cases e;exact⟨by simp[okL],hl⟩
 | none::ds,c::l,p,hl,e=>by
   unfold mkB at e;simp only[okL] at hl;split at e
   ·rename_i q hq;cases e;have ih:=qED ho hl.2 hq;exact⟨by simp only[okL];exact⟨hl.1,ih.1⟩,ih.2⟩
   ·cases e
 | some k::ds,l,p,hl,e=>by
   unfold mkB at e
   cases hm:q9K k with
   | true =>
     rw[hm] at e;simp only[cond_true] at e;split at e
     ·simp only[okL] at hl;split at e
      ·rename_i b q hb hq;cases e;have ih:=qED ho hl.2 hq;exact⟨by simp only[okL];exact⟨by simp[SV.ok],ih.1⟩,ih.2⟩
      ·cases e
     ·cases e
   | false =>
   rw[hm] at e;simp only[cond_false] at e
   cases hpt:Nat.ble qRA k with
   | true =>
     rw[hpt] at e;simp only[cond_true] at e;split at e
     ·simp only[okL] at hl;split at e
      ·rename_i m el gr g w u xs q hi hk hq;cases e;have ih:=qED ho hl.2 hq;have hg:=(ho.list _ _ _ _ _ _ _ hk).1;refine⟨?_,ih.2⟩;simp only[okL,SV.ok];exact⟨⟨⟨hg,fun el2 gr2 w2 t2 xs2 hk2=>by rw[hk] at hk2;cases hk2;rfl⟩,by rw[zPF];exact Nat.min_le_right _ _⟩,ih.1⟩
      ·cases e
     ·cases e
   | false =>
   rw[hpt] at e;simp only[cond_false] at e;split at e
   ·rename_i el gr g w u xs hk;split at e
    ·rename_i q hq;cases e;have ih:=qED ho hl hq;have hg:=(ho.list _ _ _ _ _ _ _ hk).1;refine⟨?_,ih.2⟩;simp only[okL,SV.ok];exact⟨⟨hg,fun el2 gr2 w2 t2 xs2 hk2=>by rw[hk] at hk2;cases hk2;rfl⟩,ih.1⟩
    ·cases e
   ·cases e
 | none::_,[],_,_,e=>by cases e
omit [Yl] in
theorem qL1 {h1:SH}:∀ {bs:List (Nat×List (Option Nat))} {l:List SV} {h h2:SH},OkH P h->okL h l->q8E h1 bs l h=some h2->Keep h h2∧OkH P h2∧∀ k,k ∉ bs.map (·.1)->slk k h2.l=slk k h.l
 | [],l,h,h2,ho,hl,e=>by cases e;exact⟨.refl _,ho,fun _ _=>rfl⟩
 | (k,ds)::bs,l,h,h2,ho,hl,e=>by
   unfold q8E at e;split at e
   ·rename_i el w0 l0 hk0;split at e
    ·rename_i p hp;obtain⟨m1,m2⟩:=qED ho hl hp;have hd:=gU (k:=k) ho;have hn2:=xI (h:=h.del k) (k:=k) (f:=fun v=>.cells el v p.1) hd.2 ⟨rfl,qI hd.1 m1⟩;obtain⟨a1,a2,a3⟩:=qL1 hn2.2 (qI hn2.1 (qI hd.1 m2)) e;refine⟨hd.1.trans (hn2.1.trans a1),a2,fun j hj=>?_⟩;rw[zOZ,zO1,not_or] at hj;rw[a3 j hj.2];show slk j ((k,_)::(h.del k).l)=_;rw[yD hj.1];exact kN hj.1 _
    ·cases e
   ·cases e
theorem qHH {h h2:SH}(ho:OkH P h)(ho2:OkH P h2){k:Nat}{v:SV}{el:TypeId}{gr:Bool}{g w:Nat}{u:Ty}{xs:List u.sem}(hv:v.ok h)(c:qDL k v h=true)(hk:slk k h2.l=some (.list el gr g w u xs))(h1:qA k (qD h.l)=some (SO.list el gr g w u xs).enc) :
 v.enc=(SV.own k g xs.length).enc:=by
 unfold qDL at c;split at c
 ·rename_i k' g' n';rw[zOG] at c;have hkk:k'=k:=zOH c.1;subst hkk;have c2:=c.2;split at c2
  ·rename_i el3 gr3 g3 w3 u3 xs3 hk3;have hg:g'=g3:=zOH c2;subst hg;simp only[SV.ok] at hv;have hn:=hv.2 _ _ _ _ _ hk3;rw[zP hk3] at h1;have h1:=zPC h1;have e1:el3=el:=congrArg PO.el h1
   have e2':xs3.length*u3.w=xs.length*u.w:=by
    have:=congrArg (fun o:PO=>o.cs.length) h1;simp only[qV] at this;exact this
   have l1:=ho.list _ _ _ _ _ _ _ hk3;have l2:=ho2.list _ _ _ _ _ _ _ hk
   have hww:u3.w=u.w:=by
    have a1:=l1.2.1;have a2:=l2.2.1;rw[e1,a2] at a1;exact (zPC a1).symm
   have hlen:xs3.length=xs.length:=by
    rw[hww] at e2';exact Nat.eq_of_mul_eq_mul_right l2.2.2 e2'
   simp only[SV.enc,hn,hlen]
  ·cases c2
 ·cases c
theorem qB1 {kb w:Nat}{hn h:SH}(hon:OkH P hn)(ho:OkH P h):∀ {ds:List (Option Nat)} {l ln dl rest:List SV} {p:List SV×List SV},mkB kb w ds l h=some p->qYW kb w ds ln=some dl->q4K ds ln hn=true->qB (dl++rest)=qB l->okL hn ln ->
 (∀ k o,some k∈ds->slk (q20 k) h.l=some o->qA (q20 k) (qD hn.l)=some o.enc)->qB p.1=qB ln∧qB p.2=qB rest
 | [],l,ln,dl,rest,p,e,ec,eo,hl,hok,hq=>by
   cases e
   cases ln with
   | nil=>cases ec;exact⟨rfl,hl.symm⟩
   | cons _ _=>cases ec
 | none::ds,c::l,ln,dl,rest,p,e,ec,eo,hl,hok,hq=>by
   unfold mkB at e;split at e
   ·rename_i q hm;cases e
    cases ln with
    | nil=>cases ec
    | cons v ln =>
      unfold qYW at ec;split at ec
      ·rename_i r hr;cases ec;simp only[zQN,qB,zPD] at hl;simp only[okL] at hok;obtain⟨a1,a2⟩:=qB1 hon ho hm hr (by unfold q4K at eo;exact eo) hl.2 hok.2 fun k o hk ho=>hq k o (zOK _ hk) ho
       exact⟨by simp only[qB,a1,hl.1],a2⟩
      ·cases ec
   ·cases e
 | some k::ds,l,ln,dl,rest,p,e,ec,eo,hl,hok,hq=>by
   unfold mkB at e
   cases hmk:q9K k with
   | true =>
     rw[hmk] at e;simp only[cond_true] at e;split at e
     case h_2=>cases e
     rename_i c l';split at e
     case h_2=>cases e
     rename_i b q hb hm;cases e
     cases ln with
     | nil=>cases ec
     | cons v ln =>
       unfold qYW at ec;rw[hmk] at ec;simp only[cond_true] at ec;split at ec
       case h_2=>cases ec
       rename_i b2 r hb2 hr;cases ec;simp only[okL] at hok;unfold q4K at eo;rw[zOG] at eo;simp only[zQN,qB,zPD] at hl;obtain⟨a1,a2⟩:=qB1 hon ho hm hr eo.2 hl.2 hok.2 fun k o hk ho=>hq k o (zOK _ hk) ho
       refine⟨?_,a2⟩
       have hbb:b2=b:=by
        have:=hl.1;rw[rR hb] at this;simp only[SV.enc,Ty.fv,fvv] at this;injection this with this;injection this with this;injection this
       simp only[qB,a1,q2B hb2,hbb]
   | false =>
   rw[hmk] at e;simp only[cond_false] at e
   cases hpt:Nat.ble qRA k with
   | true =>
     have hun:q20 k=k - qRA:=by unfold q20;rw[hpt,cond_true]
     rw[hpt] at e;simp only[cond_true] at e;split at e
     case h_2=>cases e
     rename_i c l';split at e
     case h_2=>cases e
     rename_i m el gr g w u xs q hi hk hm;cases e
     cases ln with
     | nil=>cases ec
     | cons v ln =>
       unfold qYW at ec;rw[hmk,hpt] at ec;simp only[cond_true,cond_false] at ec;split at ec
       case h_2=>cases ec
       rename_i m2 r hm2 hr;cases ec;simp only[okL] at hok;unfold q4K at eo;rw[hmk,hpt,zOG] at eo;simp only[cond_true,cond_false] at eo;simp only[zQN,qB,zPD] at hl;obtain⟨a1,a2⟩:=qB1 hon ho hm hr eo.2 hl.2 hok.2 fun k o hk ho=>hq k o (zOK _ hk) ho
       refine⟨?_,a2⟩
       have hmm:(m2:Int)=m:=by
        have:=hl.1;rw[yF hi] at this;simp only[SV.enc,Ty.fv,fvv] at this;injection this with this;injection this with this;injection this
       have hpl:=hq k _ zON (by rw[hun];exact hk);rw[hun] at hpl;simp only[qB,a1]
       congr 1
       have fin:∀ {k' g' n':Nat},qW7 hn k' g' n'->qDL (k - qRA) (.own k' g' n') hn=true->m2<=n'->(SV.sl (k - qRA) g xs.length 0 (Nat.min m.toNat xs.length)).enc=PV.own k' n' 0 m2:=fun {k' g' n'} h1 h2 h3=>by
        have:=qHH hon ho (v:=.own k' g' n') (by simp only[SV.ok];exact h1) h2 hk hpl;simp only[SV.enc] at this;injection this with b1 b2 b3 b4
        have hmin:Nat.min m.toNat xs.length=m2:=by
         rw[<-hmm,zQ6];exact zP7 (by omega)
        simp only[SV.enc,hmin,b1,b2]
       have e1:=eo.1;have o1:=hok.1;unfold q3P at e1;unfold q97 at hm2;split at e1
       ·cases hm2;simp only[SV.ok] at o1;rw[fin o1 e1 (zOI _)];simp only[SV.enc]
       ·rename_i k' g' n' o' m'
        cases h0:Nat.beq o' 0 with
        | false=>simp only[h0,cond_false] at hm2;cases hm2
        | true =>
          simp only[h0,cond_true] at hm2;cases hm2;have h0:=zOH h0;subst h0;simp only[SV.ok] at o1;rw[fin o1.1 e1 (by omega)];simp only[SV.enc]
       ·cases e1
   | false =>
   have hun:q20 k=k:=by unfold q20;rw[hpt,cond_false]
   rw[hpt] at e;simp only[cond_false] at e;split at e
   ·rename_i el gr g w u xs hk;split at e
    ·rename_i q hm;cases e
     cases ln with
     | nil=>cases ec
     | cons v ln =>
       unfold qYW at ec;rw[hmk,hpt] at ec;simp only[cond_false] at ec;simp only[okL] at hok;unfold q4K at eo;rw[hmk,hpt,zOG] at eo;simp only[cond_false] at eo;obtain⟨a1,a2⟩:=qB1 hon ho hm ec eo.2 hl hok.2 fun k o hk ho=>hq k o (zOK _ hk) ho
       refine⟨?_,a2⟩;simp only[qB,a1];rw[qHH hon ho hok.1 eo.1 hk (by have:=hq k _ zON (by rw[hun];exact hk);rw[hun] at this;exact this)]
    ·cases e
   ·cases e
 | none::_,[],_,_,_,_,e,_,_,_,_,_=>by cases e
theorem qOG {hn h1:SH}{L:List Nat}(hon:OkH P hn):∀ {bs:List (Nat×List (Option Nat))} {l c rest:List SV} {h h2:SH},OkH P h->okL h l->q8E h1 bs l h=some h2->qY1 bs hn=some c->qB (c++rest)=qB l->mE L bs h1 hn=true ->
 (∀ k o,slk k h.l=some o->k ∉ bs.map (·.1)->qA k (qD hn.l)=some o.enc)->(∀ k o,slk k h.l=some o->k ∉ L->qA k (qD hn.l)=some o.enc)->∀ k o,slk k h2.l=some o->qA k (qD hn.l)=some o.enc
 | [],l,c,rest,h,h2,ho,hl,e,ec,hc,hb,hq,_,k,o,hk=>by
   cases e;exact hq k o hk (by simp)
 | (j,ds)::bs,l,c,rest,h,h2,ho,hl,e,ec,hc,hb,hq,hqL,k,o,hk=>by
   unfold mE at hb;rw[zPY,zOG,zOG,zOG] at hb;obtain⟨⟨b0,b1,b2⟩,b3⟩:=hb;unfold q8E at e;split at e
   case h_2=>cases e
   rename_i el w0 l0 hk0;split at e
   case h_2=>cases e
   rename_i p hp;rw[hk0] at b2;simp only at b2;unfold qY1 at ec;split at ec
   case h_2=>cases ec
   rename_i el2 w2 ln hkn;rw[hkn] at b2;simp only[zOG] at b2;split at ec
   case h_2=>cases ec
   rename_i a b ha hb2;cases ec;have hel:el=el2:=zOH b2.1;subst hel;obtain⟨m1,m2⟩:=qED ho hl hp
   obtain⟨q1,q2⟩:=qB1 hon ho hp ha b2.2 (rest:=b++rest) (by rw[<-zPE];exact hc) (hon.cells _ _ _ _ hkn) (fun k o hk ho2=>hqL (q20 k) o ho2 fun hm=>by
    have:=zOJ.1 b1 (some k) hk;simp only[xK.2 hm] at this
    cases this)
   have hd:=gU (k:=j) ho;have hn2:=xI (h:=h.del j) (k:=j) (f:=fun v=>.cells el v p.1) hd.2 ⟨rfl,qI hd.1 m1⟩
   have look:∀ i,i≠j->slk i ((h.del j).new j fun v=>.cells el v p.1).l=slk i h.l:=fun i hi=>by
    show slk i ((j,_)::(h.del j).l)=_;rw[yD hi];exact kN hi _
   have zJU:slk j ((h.del j).new j fun v=>.cells el v p.1).l=some (.cells el (h.del j).next p.1):=kZ
   have zGJ:qA j (qD hn.l)=some (SO.cells el (h.del j).next p.1).enc:=by
    rw[zP hkn];simp[SO.enc,q1]
   refine qOG hon (bs:=bs) (c:=b) (rest:=rest) hn2.2 (qI hn2.1 (qI hd.1 m2)) e hb2 q2.symm b3 (fun i o2 hi hni=>?_) (fun i o2 hi hni=>?_) k o hk
   ·by_cases hij:i=j
    ·subst hij;rw[zJU] at hi;cases hi;exact zGJ
    ·rw[look i hij] at hi;exact hq i o2 hi (by rw[zOZ,zO1,not_or];exact⟨hij,hni⟩)
   ·by_cases hij:i=j
    ·subst hij;rw[zJU] at hi;cases hi;exact zGJ
    ·rw[look i hij] at hi;exact hqL i o2 hi hni
end
end Go.Sv
namespace Go.Sv
open Go.Idl
noncomputable section
variable [Gc]
variable [Yl]
variable {P:Program}{R:Type}{r:R}{nm:Nm}
def qS2 (os:List (Nat×Bool))(h:SH):Bool:=os.all fun p=>match slk p.1 h.l with
 | some ob=>(match obD ob with
   | some q=>q.2==p.2
   | none=>false)
 | none=>false
def qI8 (l:List (Nat×Nat))(env:List SV)(h:SH):Bool:=l.all fun p=>cond (Nat.ble mkM p.2) (match zL env p.1 with
 | some (.mp k)=>Nat.beq k (p.2 - mkM)
 | _=>false) (match zL env p.1 with
 | some (.own k g _)=>Nat.beq k p.2&&(match slk k h.l with
   | some (.list _ _ g' _ _ _)=>Nat.beq g g'
   | _=>false)
 | _=>false)
def eP (ls:List Nat)(hh h:SH):Bool:=hh.l.all fun p=>mX p.1 ls||(match slk p.1 h.l with
 | some o=>Nat.beq o.w p.2.w||(match slk p.1 hh.l with
   | some q=>Nat.beq o.w q.w
   | none=>false)
 | none=>false)
omit [Yl] in
theorem qNL {k:Nat}{o:SO}:∀ {l:List (Nat×SO)},slk k l=some o->(k,o)∈l
 | (j,p)::l,h=>by
   have h1:cond (k==j) (some p) (slk k l)=some o:=h;clear h
   cases hj:k==j with
   | true =>
     rw[hj] at h1;have h2:p=o:=zPC h1;have:k=j:=by simpa using hj
     rw[this,h2];exact zON
   | false =>
     rw[hj] at h1;exact zOK _ (qNL (l:=l) h1)
omit [Yl] in
theorem qHB:∀ {ks:List Nat} {h:SH} {os:List (Nat×Bool)},q64 ks h=some os->os.map (·.1)=ks
 | [],h,os,e=>by cases e;rfl
 | k::ks,h,os,e=>by
   unfold q64 at e;split at e
   ·rename_i hk hl;split at e
    ·cases e;rw[zOZ,qHB hl]
    ·cases e
   ·cases e
omit [Yl] in
theorem qN0:∀ {ks:List Nat} {h:SH} {os:List (Nat×Bool)},q64 ks h=some os->qS2 os h=true
 | [],h,os,e=>by cases e;rfl
 | k::ks,h,os,e=>by
   unfold q64 at e;split at e
   ·rename_i ob os' hk hl;split at e
    ·rename_i p hp;cases e;have ih:=qN0 hl;unfold qS2 at ih ⊢;rw[zPY,ih];simp only[hk,hp];simp
    ·cases e
   ·cases e
omit [Yl] in
theorem qYK:∀ {ks:List Nat} {h:SH} {b:List SV},qS1 ks h=some b->∀ (i:Nat) k,ks[i]?=some k->∃ ob p,slk k h.l=some ob∧obD ob=some p∧b[i]?=some p.1
 | [],h,b,e,i,k,hk=>by simp at hk
 | j::ks,h,b,e,i,k,hk=>by
   unfold qS1 at e;split at e
   ·rename_i ob l hj hl;split at e
    ·rename_i p hp;cases e
     cases i with
     | zero =>
       simp at hk;subst hk;exact⟨ob,p,hj,hp,rfl⟩
     | succ i=>exact qYK hl i k (by simpa using hk)
    ·cases e
   ·cases e
omit [Yl] in
theorem qO2:∀ {ks:List Nat} {h:SH} {b:List SV},qS1 ks h=some b->b.length=ks.length
 | [],h,b,e=>by cases e;rfl
 | k::ks,h,b,e=>by
   unfold qS1 at e;split at e
   ·rename_i hk hl;split at e
    ·cases e;simp only[zO4,qO2 hl]
    ·cases e
   ·cases e
theorem qLW {h h2:SH}{env:List SV}(ho:OkH P h)(ho2:OkH P h2)(hs:∀ k o,slk k h2.l=some o->qA k (qD h.l)=some o.enc)(hen:okL h env):∀ {l:List (Nat×Nat)} {m e2:List SV},qI8 l env h=true->q4A l h2 m=some e2->WkP (qB env) (qB m)->WkP (qB env) (qB e2)
 | [],m,e2,_,e,hw=>by cases e;exact hw
 | (i,k)::l,m,e2,hc,e,hw=>by
   unfold qI8 at hc;rw[zPY,zOG] at hc;unfold q4A at e;have c0:=hc.1;simp only at c0
   cases hmk:Nat.ble mkM k with
   | true =>
     rw[hmk] at e c0;simp only[cond_true] at e c0;refine qLW ho ho2 hs hen hc.2 e ?_;split at c0
     ·rename_i k' hi;have hkk:=zOH c0;rw[xZ];refine qFC hw ?_;rw[qW,hi,hkk];rfl
     ·cases c0
   | false =>
   rw[hmk] at e c0;simp only[cond_false] at e c0;split at e
   ·rename_i el gr g w u xs hk;refine qLW ho ho2 hs hen hc.2 e ?_;have c1:=c0;split at c1
    ·rename_i k' g' n' hi;have c3:qDL k (.own k' g' n') h=true:=c1;rw[xZ];refine qFC hw ?_;rw[qW,hi];show some (SV.own k' g' n').enc=_;rw[qHH ho ho2 (mW hen hi) c3 hk (hs k _ hk)]
    ·cases c1
   ·cases e
theorem qOE {W:List Nat}{sh:Sh}{ts:List Ty}{os:List (Nat×Bool)}{zE4 e2 b c:List SV}{h1 h h2:SH}{s:TyL ts}(ho:OkH P h)(ho1:OkH P h1)
 (hb:qS1 sh.o h=some b) (hcB:qY1 sh.b h=some c) (w2:qB (dI sh.d (svL ts s) (blank W 0 zE4)).2=qB (b++c)) (hm:mkS P W sh ts os zE4 h1 s=some (e2,h2)) (hos:os.map (·.1)=sh.o) (hgr:qS2 os h=true) (hbx:mE (sh.b.map (·.1)) sh.b h1 h=true)
 (hkept:∀ k o,k ∉ sh.o->k ∉ sh.b.map (·.1)->slk k h1.l=some o->qA k (qD h.l)=some o.enc) :
 OkH P h2∧q4A sh.s h2 (dI sh.d (svL ts s) (blank W 0 zE4)).1=some e2∧∀ k o,slk k h2.l=some o->qA k (qD h.l)=some o.enc:=by
 unfold mkS at hm;split at hm
 case h_2=>cases hm
 rename_i h3 hso;split at hm
 case h_2=>cases hm
 rename_i h4 hsb;split at hm
 case h_2=>cases hm
 rename_i e3 hss;cases hm;have hlen:os.length=b.length:=by rw[qO2 hb,<-hos,zOS]
 have t1:qB ((dI sh.d (svL ts s) (blank W 0 zE4)).2.take os.length)=qB b:=by
  rw[qXI,w2,zH,zH,zPS,hlen,<-zOS (as:=b) (f:=SV.enc),List.take_left]
 have t2:qB ((dI sh.d (svL ts s) (blank W 0 zE4)).2.drop os.length)=qB c:=by
  rw[qUW,w2,zH,zH,zPS,hlen,<-zOS (as:=b) (f:=SV.enc),List.drop_left]
 have zJV:∀ k o,¬ k∈sh.b.map (·.1)->slk k h3.l=some o->qA k (qD h.l)=some o.enc:=by
  refine qO0 (B:=fun k=>k∈sh.b.map (·.1)) hso (fun k o hB hk hk2=>hkept k o (by rw[<-hos];exact hk) hB hk2) ?_;intro i k gr x hi hx;have hki:sh.o[i]?=some k:=by rw[<-hos,zOX,hi];rfl
  obtain⟨ob,p,q1,q0,q2⟩:=qYK hb i k hki
  have hce:x.enc=p.1.enc:=by
   have e1:(qB b)[i]?=some p.1.enc:=by rw[zH,zOX,q2];rfl
   rw[<-t1,zH,zOX,hx] at e1;exact zPC e1
  have hg:p.2=gr:=by
   unfold qS2 at hgr;have:=zOJ.1 hgr (k,gr) (zPP hi);simp only[q1,q0] at this;simpa using this
  rw[hce,zP q1,<-hg,zDP q0]
 obtain⟨k3,ho3,_⟩:=qMP ho1 hso;have hrest:okL h3 ((dI sh.d (svL ts s) (blank W 0 zE4)).2.drop os.length):=qPW _ (qBS (qCM ts s));have hsub:=qOG (L:=sh.b.map (·.1)) ho (c:=c) (rest:=[]) ho3 hrest hsb hcB (by rw[zQB];exact t2.symm) hbx (fun k o hk hn=>zJV k o hn hk) (fun k o hk hn=>zJV k o hn hk);obtain⟨_,ho4,_⟩:=qL1 ho3 hrest hsb;exact⟨ho4,hss,hsub⟩
theorem qB5 {h h2:SH}(hsub:∀ k o,slk k h2.l=some o->qA k (qD h.l)=some o.enc):qBD (qD h2.l) (qD h.l):=fun k ob hk=>by
 rw[vC] at hk;obtain⟨o,h1,h2⟩:=zOR.1 hk;rw[hsub k o h1,h2]
theorem q1T {W:List Nat}{sh:Sh}{ts:List Ty}{os:List (Nat×Bool)}{zE4 env e2 a b c:List SV}{h1 h h2:SH}{s:TyL ts}(ho:OkH P h)(ho1:OkH P h1)(hen:okL h env)
 (ha:qF0 sh.d env=some a) (hb:qS1 sh.o h=some b) (hcB:qY1 sh.b h=some c) (hd:tK ts (a++(b++c))=some s) (hm:mkS P W sh ts os zE4 h1 s=some (e2,h2)) (hos:os.map (·.1)=sh.o) (hgr:qS2 os h=true) (hown:qI8 sh.s env h=true) (hbx:mE (sh.b.map (·.1)) sh.b h1 h=true)
 (hkept:∀ k o,k ∉ sh.o->k ∉ sh.b.map (·.1)->slk k h1.l=some o->qA k (qD h.l)=some o.enc) (hbl:WkP (qB env) (qB (blank W 0 zE4))) :
 WkP (qB env) (qB e2)∧qBD (qD h2.l) (qD h.l):=by
 have hde:=aK hd;obtain⟨w1,w2⟩:=qLK (m:=svL ts s) ha hde hbl;obtain⟨ho4,hss,hsub⟩:=qOE ho ho1 hb hcB w2 hm hos hgr hbx hkept;exact⟨qLW ho ho4 hsub hen hown hss w1,qB5 hsub⟩
theorem uO {W:List Nat}{sh:Sh}{ts:List Ty}{os:List (Nat×Bool)}{zE4 e2:List SV}{h1 h2:SH}{s:TyL ts}(ho1:OkH P h1)(he1:okL h1 zE4)(hm:mkS P W sh ts os zE4 h1 s=some (e2,h2)) :
 Keep h1 h2∧OkH P h2∧okL h2 e2∧e2.length=zE4.length∧(∀ j,j ∉ W->j ∉ sh.d->j ∉ sh.s.map (·.1)->zL (qB e2) j=zL (qB zE4) j)∧∀ k,k ∉ os.map (·.1)->k ∉ sh.b.map (·.1)->slk k h2.l=slk k h1.l:=by
 unfold mkS at hm;split at hm
 case h_2=>cases hm
 rename_i h3 hso;split at hm
 case h_2=>cases hm
 rename_i h4 hsb;split at hm
 case h_2=>cases hm
 rename_i e3 hss;cases hm;obtain⟨a1,a2,a3⟩:=qMP ho1 hso;have hrest:okL h3 ((dI sh.d (svL ts s) (blank W 0 zE4)).2.drop os.length):=qPW _ (qBS (qCM ts s));obtain⟨c1,c2,c3⟩:=qL1 a2 hrest hsb;have hok:okL h2 (dI sh.d (svL ts s) (blank W 0 zE4)).1:=qL5 (qCM ts s) (qOO (qI c1 (qI a1 he1)));obtain⟨b1,b2,b3⟩:=qL6 c2 hok hss;refine⟨a1.trans c1,c2,b1,by rw[b2,qFB,qCR],fun j hj hjd hjs=>?_,fun k hk hk2=>(c3 k hk2).trans (a3 k hk)⟩;rw[qW,qW,b3 j hjs,qF3 hjd,qA4]
 have:mX (0+j) W=false:=by
  cases hq:mX (0+j) W with
  | false=>rfl
  | true=>rw[zPF] at hq;exact absurd (xK.1 hq) hj
 rw[this];cases zL zE4 j <;> rfl
theorem tY {W:List Nat}{env zE4:List SV}(hl:env.length=zE4.length)(h:∀ i,i ∉ W->zL (qB env) i=zL (qB zE4) i):WkP (qB env) (qB (blank W 0 zE4)):=by
 refine qQ6 (by rw[qQ,qQ,qCR,hl]) fun i=>?_
 rw[qW (blank W 0 zE4),qA4,zPF]
 cases hq:mX i W with
 | true =>
   cases hx:zL zE4 i with
   | none =>
     left
     have:zL env i=none:=by
      rw[qF] at hx ⊢;rw[zRH] at hx ⊢;omega
     rw[qW,this];rfl
   | some x=>right;simp[SV.enc]
 | false =>
   left
   have hni:i ∉ W:=fun hm=>by
    rw[xK.2 hm] at hq;cases hq
   rw[h i hni,qW zE4];cases zL zE4 i <;> rfl
end
end Go.Sv
namespace Go.Sv
open Go.Idl
noncomputable section
abbrev vM (Γ:Option Type)(R:Type):=zF1->GV Γ->List SV->SH->zEY R
def zEY.sum {R:Type}{α β:Type}(x:α⊕β)(f:α->zEY R)(g:β->zEY R):zEY R:=Sum.rec f g x
variable [Gc]
variable [Yl]
variable {P:Program}{Γ:Option Type}{R:Type}{r:R}{nm:Nm}{G:Nat->Bool}{rd:Bool}{N:Nat}{rs:List Ty}{wd:Wld (GV Γ)}
def EQ (P:Program)(N:Nat)(w:List Nat)(env:List SV)(h:SH)(K:vM Γ R)(r:R):YQ (GV Γ):=fun e g pe ph =>
 ∃ env' h',pe=qB env'∧ph=qD h'.l∧okL h' env'∧OkH P h'∧env'.length=N∧Keep h h'∧(e≠.ret->xL P w env h env' h')∧(K e g env' h').run=some r
def zD0 (id:Nat)(K:vM Γ R):vM Γ R:=fun e g env h=>match e with
 | .exit i=>cond (Nat.beq i id) (K .normal g env h) (K (.exit i) g env h)
 | e=>K e g env h
def q47:List Nat->Nat->(Nat->zEY R)->zEY R
 | [],_,_=>.fail
 | a::l,j,K=>.ite (Nat.beq j a) (K a) (q47 l j K)
omit [Yl] in
theorem qOM:∀ {l:List Nat} {j:Nat} {K:Nat->zEY R},(q47 l j K).run=some r->(K j).run=some r
 | [],j,K,e=>by cases e
 | a::l,j,K,e=>by
   rcases run_ite e with ⟨z,e1⟩ | ⟨z,e1⟩
   ·rw[zOH z];exact e1
   ·exact qOM e1
def bk (sh:Sh)(os:List (Nat×Bool))(ts:List Ty)(mk:TyL ts->Option (List SV×SH))(h1 hh:SH)(env:List SV)(h:SH):Option (TyL ts):=match qF0 sh.d env,qS1 sh.o h,qY1 sh.b h with
 | some a,some b,some c=>(match tK ts (a++(b++c)) with
   | some s=>cond (qS2 os h&&(qI8 sh.s env h&&(mE (sh.b.map (·.1)) sh.b h1 h&&(eP (sh.o++sh.b.map (·.1)) hh h&&(mk s).isSome)))) (some s) none
   | none=>none)
 | _,_,_=>none
def mkL:Nat:=2000000000000000
def lbL (y:Nat):Nat:=y - mkL
def pF:List (Nat×TypeId)->List SV->SH->List SV->List SV
 | [],_,_,e=>e
 | (i,y)::l,e0,h,e=>cond (Nat.ble mkL y) (match slk (lbL y) h.l,zL e0 i with
   | some (.list _ _ g _ _ xs),some (.sl _ _ _ o m)=>pF l e0 h (yR e i (.sl (lbL y) g (List.length xs) o m))
   | _,_=>pF l e0 h e) (pF l e0 h e)
def slG:List (Nat×TypeId)->List SV->SH->Bool
 | [],_,_=>true
 | (i,y)::l,e0,h=>cond (slG l e0 h) (cond (Nat.ble mkL y) (match slk (lbL y) h.l,zL e0 i with
   | some (.list _ _ _ _ _ xs),some (.sl _ _ _ o m)=>Nat.ble (o+m) (List.length xs)
   | _,_=>false) true) false
def zD1 (k:Nat)(v:SV)(h:SH):Bool:=match v with
 | .sl k' g n _ _=>qDL k (.own k' g n) h
 | _=>false
def q4D (l:List (Nat×TypeId))(env:List SV)(h:SH):Bool:=l.all fun p=>cond (Nat.ble mkL p.2) (match zL env p.1 with
 | some v=>zD1 (lbL p.2) v h
 | none=>false) true
def slW (wb:List Nat)(l:List (Nat×TypeId)):Bool:=l.all fun p=>cond (Nat.ble mkL p.2) (!mX p.1 wb) true
def isP (k o m:Nat)(x:Option SV):Prop:=∃ g n,x=some (.sl k g n o m)
omit [Yl] in
theorem qOJ {k o m j g0 n0 k0:Nat}{e0:List SV}{h:SH}(h0:zL e0 j=some (.sl k0 g0 n0 o m)):∀ {l:List (Nat×TypeId)} {e:List SV},(∀ y,(j,y)∈l->Nat.ble mkL y=true->lbL y=k)->isP k o m (zL e j)->isP k o m (zL (pF l e0 h e) j)
 | [],e,_,he=>he
 | (i,y)::l,e,hy,he=>by
   have ih:=fun {e:List SV}=>qOJ (k:=k) (h:=h) h0 (l:=l) (e:=e) fun y hm=>hy y (zOK _ hm)
   unfold pF
   cases hb:Nat.ble mkL y with
   | false=>exact ih he
   | true =>
     simp only[cond_true];split
     ·rename_i hk hi;refine ih ?_;by_cases hij:i=j
      ·subst hij;rw[h0] at hi;cases hi;rw[hy y zON hb];obtain⟨g,n,h2⟩:=he
       have hlt:i < e.length:=by
        rw[qF] at h2;exact (zOO.1 h2).1
       exact⟨_,_,by rw[qX,qF,List.getElem?_set_self hlt]⟩
      ·rw[qX,qF,zST hij,<-qF];exact he
     ·exact ih he
omit [Yl] in
theorem qP3 {k o m j y0 g0 n0 k0:Nat}{e0:List SV}{h:SH}(h0:zL e0 j=some (.sl k0 g0 n0 o m)):∀ {l:List (Nat×TypeId)} {e:List SV},(∀ y,(j,y)∈l->Nat.ble mkL y=true->lbL y=k)->(j,y0)∈l->Nat.ble mkL y0=true->slG l e0 h=true->j < e.length->isP k o m (zL (pF l e0 h e) j)
 | (i,y)::l,e,hy,hm,hy0,hg,hlt=>by
   have hy':∀ y,(j,y)∈l->Nat.ble mkL y=true->lbL y=k:=fun y hm=>hy y (zOK _ hm)
   unfold slG at hg
   cases hgl:slG l e0 h with
   | false=>rw[hgl] at hg;cases hg
   | true =>
   rw[hgl,cond_true] at hg;have len:∀ {x:SV},j < (yR e i x).length:=fun {x}=>by rw[jI];exact hlt
   rcases zO1.1 hm with hq | hq
   ·cases hq;unfold pF;rw[hy0,cond_true] at hg ⊢;split at hg
    ·rename_i el gr g w t xs k2 g2 n2 o2 m2 hk hi;rw[h0] at hi;cases hi;refine qOJ h0 hy' ?_;rw[hy y0 zON hy0];exact⟨_,_,by rw[qX,qF,List.getElem?_set_self hlt]⟩
    ·cases hg
   ·unfold pF
    cases hb:Nat.ble mkL y with
    | false=>exact qP3 h0 hy' hq hy0 hgl hlt
    | true =>
      simp only[cond_true];split
      ·exact qP3 h0 hy' hq hy0 hgl len
      ·exact qP3 h0 hy' hq hy0 hgl hlt
omit [Yl] in
theorem qJW {j:Nat}{e0:List SV}{h:SH}:∀ {l:List (Nat×TypeId)} {e:List SV},j ∉ l.map (·.1)->zL (pF l e0 h e) j=zL e j
 | [],e,_=>rfl
 | (i,y)::l,e,hj=>by
   rw[zOZ,zO1,not_or] at hj;unfold pF
   cases Nat.ble mkL y with
   | false=>exact qJW hj.2
   | true =>
     simp only[cond_true];split
     ·rw[qJW hj.2,qX,qF,zST (fun q=>hj.1 q.symm),<-qF]
     ·exact qJW hj.2
omit [Yl] in
theorem qV1 {e0:List SV}{h:SH}(ho:OkH P h):∀ {l:List (Nat×TypeId)} {e:List SV},okL h e->slG l e0 h=true->okL h (pF l e0 h e)∧(pF l e0 h e).length=e.length
 | [],e,he,_=>⟨he,rfl⟩
 | (i,y)::l,e,he,hg=>by
   unfold slG at hg
   cases hgl:slG l e0 h with
   | false=>rw[hgl] at hg;cases hg
   | true =>
   rw[hgl,cond_true] at hg;unfold pF
   cases hb:Nat.ble mkL y with
   | false=>exact qV1 ho he hgl
   | true =>
     rw[hb,cond_true] at hg;simp only[cond_true];split at hg
     ·rename_i el gr g w t xs k' g' n' o m hk hi
      have hv:(SV.sl (lbL y) g (List.length xs) o m).ok h:=by
       simp only[SV.ok];refine⟨⟨(ho.list _ _ _ _ _ _ _ hk).1,fun el2 gr2 w2 t2 xs2 h2=>?_⟩,zOQ hg⟩;rw[hk] at h2;cases h2;rfl
      obtain⟨a1,a2⟩:=qV1 ho (xG (t:=i) he hv) hgl;exact⟨a1,a2.trans (jI _ _ _)⟩
     ·cases hg
theorem qXF {h h3:SH}{env e0:List SV}(ho:OkH P h)(ho3:OkH P h3)(hs:qBD (qD h3.l) (qD h.l))(hen:okL h env):∀ {l:List (Nat×TypeId)} {m:List SV},q4D l env h=true ->
 (∀ i y k g n o q,(i,y)∈l->Nat.ble mkL y=true->zL e0 i=some (.sl k g n o q)->∃ k' g' n',zL env i=some (.sl k' g' n' o q))->WkP (qB env) (qB m)->WkP (qB env) (qB (pF l e0 h3 m))
 | [],m,_,_,hw=>hw
 | (i,y)::l,m,hc,hom,hw=>by
   unfold q4D at hc;rw[zPY,zOG] at hc;have zMW:=fun i y k g n o q hm=>hom i y k g n o q (zOK _ hm)
   have ih:=fun {m:List SV}=>qXF ho ho3 hs hen (l:=l) (m:=m) hc.2 zMW
   unfold pF
   cases hb:Nat.ble mkL y with
   | false=>exact ih hw
   | true =>
     have c0:=hc.1;simp only[hb,cond_true] at c0 ⊢;split
     ·rename_i el gr g w t xs k0 g0 n0 o q hk hi;refine ih ?_;obtain⟨k',g',n',hi2⟩:=hom i y _ _ _ _ _ zON hb hi;rw[hi2] at c0;have c3:qDL (lbL y) (.own k' g' n') h=true:=c0
      have hv:(SV.own k' g' n').ok h:=by
       have:=mW hen hi2;simp only[SV.ok] at this ⊢;exact this.1
      have he:=qHH ho ho3 hv c3 hk (hs _ _ (zP hk));rw[xZ];refine qFC hw ?_;rw[qW,hi2,zOW];simp only[SV.enc,PV.own.injEq] at he ⊢;obtain⟨e1,e2,_,_⟩:=he;rw[e1,e2]
     ·exact ih hw
theorem qYL {l:List (Nat×TypeId)}{env:List SV}{h:SH}(hc:q4D l env h=true){i y:Nat}(hm:(i,y)∈l)(hb:Nat.ble mkL y=true):∃ g n o q,zL env i=some (.sl (lbL y) g n o q):=by
 unfold q4D at hc;have:=zOJ.1 hc (i,y) hm;simp only[hb,cond_true] at this;split at this
 ·rename_i v hv;unfold zD1 at this;split at this
  ·rename_i k g n o q;unfold qDL at this;simp only[zOG] at this;have hk:=zOH this.1;rw[hk] at hv;exact⟨g,n,o,q,hv⟩
  ·exact absurd this zRD
 ·exact absurd this zRD
def qV2 (rdv:List SV->SH->Option (TyL rs))(id:Nat)(sh:Sh)(os:List (Nat×Bool))(ts:List Ty)(mk:TyL ts->Option (List SV×SH))(h1 hh:SH):vM Γ (GS Γ (TyL ts)⊕(GS Γ (TyL ts)⊕(GS Γ (TyL rs)⊕GS Γ (Nat×TyL ts)))):=fun e g env h=>match e with
 | .normal=>cond (q4D sh.v env h) (match bk sh os ts mk h1 hh env h with
   | some s=>.ret (.inl (gj g s))
   | none=>.fail) .fail
 | .exit j=>cond (q4D sh.v env h) (match bk sh os ts mk h1 hh env h with
   | some s=>.ret (.inr (cond (Nat.beq j id) (.inl (gj g s)) (.inr (.inr (gj g (j,s))))))
   | none=>.fail) .fail
 | .ret=>(match rdv env h with
   | some v=>.ret (.inr (.inr (.inl (gj g v))))
   | none=>.fail)
 | .goto _=>.fail
def goS {α:Type}(o:Option (α×SH))(K:α->SH->zEY R):zEY R:=match o with
 | some p=>K p.1 p.2
 | none=>.fail
omit [Yl] in
theorem o6 {α:Type}{o:Option (α×SH)}{K:α->SH->zEY R}(e:(goS o K).run=some r):∃ a h,o=some (a,h)∧(K a h).run=some r:=by
 unfold goS at e;split at e
 ·exact⟨_,_,rfl,e⟩
 ·cases e
def zAH (P:Program)(nm:Nm)(wb w:List Nat)(rdv:List SV->SH->Option (TyL rs))(en:TyL rs->List SV)(hb:SH)(sh:Sh)(id:Nat)(body:∀ {R':Type},GV Γ->List SV->SH->vM Γ R'->zEY R')(g:GV Γ)(env:List SV)(h:SH)(K:vM Γ R):zEY R :=
 qRE P nm sh.v env h fun zE4 h0=>qV4 P nm (sh.b.map (·.1)) sh.bv zE4 h0 fun zE4 h1=>match qF0 sh.d zE4,qS1 sh.o h1,qY1 sh.b h1,q64 sh.o h1 with
  | some a,some b,some c,some os=>(match zC2 (a++(b++c)) with
    | some ts=>(match tK ts (a++(b++c)) with
      | some s0=>cond ((qI8 sh.s zE4 h1&&mE (sh.b.map (·.1)) sh.b h1 h1)&&(q4D sh.v zE4 h1&&slW wb sh.v))
         (.loop (fun s=>goS (mkS P w sh ts os zE4 h1 (g2 s)) fun e hh=>.ite (slG sh.v zE4 hh) (body (g1 s) (pF sh.v zE4 hh e) hh (qV2 rdv id sh os ts (mkS P w sh ts os zE4 h1) h1 hh)) .fail) (gj g s0)
           fun q=>zEY.sum q (fun s=>goS (mkS P w sh ts os zE4 h1 (g2 s)) fun e hh=>.ite (slG sh.v zE4 hh) (K .normal (g1 s) (pF sh.v zE4 hh e) hh) .fail)
            fun q2=>zEY.sum q2 (fun v=>K .ret (g1 v) (en (g2 v)) ⟨h.next,hb.l⟩)
             fun p=>q47 sh.ex (g2 p).1 fun j=>goS (mkS P w sh ts os zE4 h1 (g2 p).2) fun e hh=>.ite (slG sh.v zE4 hh) (K (.exit j) (g1 p) (pF sh.v zE4 hh e) hh) .fail) .fail
      | none=>.fail)
    | none=>.fail)
  | _,_,_,_=>.fail
def lpW (w:List Nat)(sh:Sh):List Nat:=sh.v.map (·.1)++(w++(sh.d++sh.s.map (·.1)))
structure zH1 (P:Program) (nm:Nm) (N:Nat) (hb:SH) (rdv:List SV->SH->Option (TyL rs)) (en:TyL rs->List SV):Prop where
 ob:OkH P hb
 wk:∀ env h v,OkH P h->okL h env->env.length=N->Keep hb h->rdv env h=some v->Wk P nm (qB env) (qD h.l) (qB (en v)) (qD hb.l)
 kept:∀ env h v,OkH P h->okL h env->Keep hb h->rdv env h=some v->∀ k o,slk k hb.l=some o->slk k h.l=some o
 len:∀ v,(en v).length=N
 ok:∀ v h,okL h (en v)
omit [Yl] in
theorem q98 {h:SH}(a:OkH P h){n:Nat}(hn:h.next<=n):OkH P ⟨n,h.l⟩:=by
 have hk:∀ {x:SV},x.ok h->x.ok ⟨n,h.l⟩:=fun {x} hx=>SV.ok.keep (h:=h) (h':=⟨n,h.l⟩) ⟨hn,fun k ob hh _=>hh,fun k el gr g w t xs hh _=>⟨w,xs,hh,rfl⟩⟩ hx
 exact⟨fun k ob hh=>zOM (a.ver k ob hh) hn,fun k el w l hh=>zM.2 fun x hx=>hk (zM.1 (a.cells k el w l hh) x hx),fun k el gr g w t xs hh=>by
  have:=a.list k el gr g w t xs hh
  exact⟨zOM this.1 hn,this.2⟩⟩
omit [Yl] in
theorem rO:OkH P ⟨0,[]⟩:=⟨fun k ob h=>(by cases h),fun k el w l h=>(by cases h),fun k el gr g w t xs h=>(by cases h)⟩
omit [Yl] in
theorem qR8 {σ ρ:Type}{f:σ->Option (σ⊕ρ)}{s:σ}{q:ρ}(h:qZ f s=some q):∃ y,f s=some y:=by
 rw[wB] at h
 cases hf:f s with
 | none=>rw[hf] at h;cases h
 | some y=>exact⟨y,rfl⟩
omit [Yl] in
theorem qPC {ls:List Nat}{hh h:SH}{k:Nat}{o:SO}(ho:OkH P hh)(hk:Keep hh h)(e:eP ls hh h=true)(h1:k ∉ ls)(h2:slk k hh.l=some o):slk k h.l=some o:=by
 unfold eP at e;have:=zOJ.1 e (k,o) (qNL h2);rw[zPL] at this;rcases this with q | q
 ·exact absurd (xK.1 q) h1
 ·simp only at q;split at q
  ·rename_i o' ho'
   have hw:o'.w=o.w:=by
    rw[zPL] at q;rcases q with q | q
    ·exact zOH q
    ·rw[h2] at q;exact zOH q
   have:=hk.same k o' ho' (by rw[hw];exact ho.ver k o h2);rw[this] at h2;cases h2;exact ho'
  ·cases q
theorem nY {ls:List Nat}{hh h:SH}{k:Nat}{o:SO}(ho:OkH P hh)(hk:Keep hh h)(e:eP ls hh h=true)(h1:k ∉ ls)(h2:slk k hh.l=some o):qA k (qD h.l)=some o.enc:=zP (qPC ho hk e h1 h2)
theorem qZ2 {w:List Nat}{rdv:List SV->SH->Option (TyL rs)}{en:TyL rs->List SV}{hb:SH}(hrd:zH1 P nm N hb rdv en){sh:Sh}{id:Nat}{y:Code}{body:∀ {R':Type},GV Γ->List SV->SH->vM Γ R'->zEY R'}{wb:List Nat}(hwb:w=lpW wb sh)
 (hbody:∀ {R':Type} {g:GV Γ} {env:List SV} {h:SH} {K:vM Γ R'} {r:R'},OkH P h->okL h env->env.length=N->Keep hb h->(body g env h K).run=some r->qU P G rd nm wd y g (qB env) (qD h.l) (EQ P N wb env h K r))
 {g:GV Γ} {env:List SV} {h:SH} {K:vM Γ R} (ho:OkH P h) (he:okL h env) (hl:env.length=N) (hbh:Keep hb h) (e:(zAH P nm wb w rdv en hb sh id body g env h K).run=some r) :
 qU P G rd nm wd (.block id (.loop y)) g (qB env) (qD h.l) (EQ P N w env h K r):=by
 obtain⟨zE4,h0,wk1,zG0,e⟩:=qAA (nm:=nm) ho he e;obtain⟨h1,wk2,kp2,ho1,e⟩:=qH8 (nm:=nm) zG0.2.1 zG0.1 e
 have zGE:xL P (sh.v.map (·.1)) env h zE4 h1:=⟨qI kp2 zG0.1,ho1,zG0.2.2.1.trans kp2,zG0.2.2.2.1,zG0.2.2.2.2⟩
 split at e
 case h_2=>cases e
 rename_i a b c os ha hb1 hc1 hos;split at e
 case h_2=>cases e
 rename_i ts hts;split at e
 case h_2=>cases e
 rename_i s0 hs0;obtain⟨hown,e1⟩:=qG e;rw[zOG,zOG,zOG] at hown;obtain⟨hown,hsl⟩:=hown;obtain⟨q,hq,hafter⟩:=qPR e1;have he1:=zGE.1;have zH2:=qHB hos;have hl1:zE4.length=N:=zGE.2.2.2.2.trans hl;have zLH:Keep hb h1:=hbh.trans zGE.2.2.1
 let E:GS Γ (TyL ts)->List PV:=fun s=>match mkS P w sh ts os zE4 h1 (g2 s) with
  | some p=>qB (pF sh.v zE4 p.2 p.1)
  | none=>[]
 let Ph:GS Γ (TyL ts)->PHp:=fun s=>match mkS P w sh ts os zE4 h1 (g2 s) with
  | some p=>qD p.2.l
  | none=>[]
 have hE:∀ {s e2 h2},mkS P w sh ts os zE4 h1 (g2 s)=some (e2,h2)->E s=qB (pF sh.v zE4 h2 e2)∧Ph s=qD h2.l:=fun hm=>by
  simp only[E,Ph,hm,and_self]
 obtain⟨y0,hy0⟩:=qR8 hq;obtain⟨e0,hh0,hm0,_⟩:=o6 hy0;obtain⟨wp0,sp0⟩:=q1T ho1 ho1 he1 ha hb1 hc1 hs0 (by rw[q12] at hm0;exact hm0) zH2 (qN0 hos) hown.1 hown.2 (fun k o _ _ hk=>zP hk) (tY rfl fun _ _=>rfl);have wp0:=qXF ho1 (uO ho1 he1 hm0).2.1 sp0 he1 hsl.1 (fun i y k g n o q _ _ hi=>⟨k,g,n,hi⟩) wp0
 have fin:∀ {s e2 h2},mkS P w sh ts os zE4 h1 s=some (e2,h2)->slG sh.v zE4 h2=true->okL h2 (pF sh.v zE4 h2 e2)∧OkH P h2∧(pF sh.v zE4 h2 e2).length=N∧xL P w env h (pF sh.v zE4 h2 e2) h2∧Keep h1 h2:=fun {s e2 h2} hm hg=>by
  obtain⟨a1,a2,a3,a4,a5,_⟩:=uO ho1 he1 hm;obtain⟨b1,b2⟩:=qV1 a2 a3 hg;refine⟨b1,a2,(b2.trans a4).trans hl1,⟨b1,a2,zGE.2.2.1.trans a1,fun i hi=>?_,(b2.trans a4).trans zGE.2.2.2.2⟩,a1⟩;have hi2:i ∉ lpW wb sh:=by rw[<-hwb];exact hi
  unfold lpW at hi2;simp only[zPJ,not_or] at hi2;rw[qW,qJW hi2.1,<-qW,a5 i hi hi2.2.2.1 hi2.2.2.2,zGE.2.2.2.1 i hi2.1]
 refine qU.post (qU.pre' (wk1.trans wk2) ?_);refine qU.loop E Ph g1 hq (by rw[(hE hm0).1];exact wp0) (by rw[(hE hm0).2];exact sp0) q23.symm ?_;intro s yy hstep;obtain⟨e2,hh,hm,hb2⟩:=o6 hstep
 rcases run_ite hb2 with ⟨hgd,hb2⟩ | ⟨_,hb2⟩
 rotate_left 1
 ·cases hb2
 obtain⟨f1,f2,f3,f4,f5⟩:=fin hm hgd;rw[(hE hm).1,(hE hm).2];refine (hbody f2 f1 f3 (zLH.trans f5) hb2).mono ?_;rintro ex g' pe ph ⟨env',h',rfl,rfl,k1,k2,k3,k0,k4,k5⟩;obtain⟨_,_,_,m4,m5,m6⟩:=uO ho1 he1 hm
 have back:∀ {s'},ex≠.ret->q4D sh.v env' h'=true->bk sh os ts (mkS P w sh ts os zE4 h1) h1 hh env' h'=some s'->∃ e3 h3,mkS P w sh ts os zE4 h1 s'=some (e3,h3)∧WkP (qB env') (qB (pF sh.v zE4 h3 e3))∧qBD (qD h3.l) (qD h'.l):=by
  intro s' hne zH3 hbk;unfold bk at hbk;split at hbk
  case h_2=>cases hbk
  rename_i a' b' c' ha' hb' hc';split at hbk
  case h_2=>cases hbk
  rename_i s2 hs2
  cases hc:(qS2 os h'&&(qI8 sh.s env' h'&&(mE (sh.b.map (·.1)) sh.b h1 h'&&(eP (sh.o++sh.b.map (·.1)) hh h'&&(mkS P w sh ts os zE4 h1 s2).isSome)))) with
  | false=>rw[hc] at hbk;cases hbk
  | true =>
    rw[hc] at hbk;cases hbk;simp only[zOG] at hc;obtain⟨⟨e3,h3⟩,hm3⟩:=zPN.1 hc.2.2.2.2;have zG1:=k4 hne
    have hboth:WkP (qB env') (qB e3)∧qBD (qD h3.l) (qD h'.l):=by
     refine q1T k2 ho1 k1 ha' hb' hc' hs2 hm3 zH2 hc.1 hc.2.1 hc.2.2.1 (fun k o hk hkb hk2=>nY f2 zG1.2.2.1 hc.2.2.2.1 (by rw[zPJ,not_or];exact⟨hk,hkb⟩) ?_) (tY ?_ ?_)
     ·rw[m6 k (by rw[zH2];exact hk) hkb];exact hk2
     ·rw[k3,hl1]
     ·intro i hi;have hi2:i ∉ lpW wb sh:=by rw[<-hwb];exact hi
      unfold lpW at hi2;simp only[zPJ,not_or] at hi2;rw[zG1.2.2.2.1 i hi2.2.1,qW,qJW hi2.1,<-qW,m5 i hi hi2.2.2.1 hi2.2.2.2]
    refine⟨e3,h3,hm3,qXF k2 (uO ho1 he1 hm3).2.1 hboth.2 k1 zH3 (fun i y k g n o q hmem hb hi=>?_) hboth.1,hboth.2⟩;obtain⟨g2,n2,o2,q2,hi3⟩:=qYL zH3 hmem hb
    have hlab:∀ y',(i,y')∈sh.v->Nat.ble mkL y'=true->lbL y'=lbL y:=fun y' hm' hb'=>by
     obtain⟨_,_,_,_,p1⟩:=qYL hsl.1 hm' hb';obtain⟨_,_,_,_,p2⟩:=qYL hsl.1 hmem hb;have p3:=zPC (p1.symm.trans p2);simp only[SV.sl.injEq] at p3;exact p3.1
    obtain⟨g3,n3,h5⟩:=qP3 (h:=hh) (e:=e2) hi hlab hmem hb hgd (by
     rw[m4];rw[qF] at hi
     exact (zOO.1 hi).1)
    have hnb:i ∉ wb:=fun hib=>by
     have h6:=hsl.2;unfold slW at h6;have h7:=zOJ.1 h6 (i,y) hmem;simp only[hb,cond_true,xK.2 hib] at h7;cases h7
    have h8:=zG1.2.2.2.1 i hnb;rw[qW,qW,hi3,h5] at h8;simp only[zOW,SV.enc,zOP,PV.own.injEq] at h8;obtain⟨_,_,e1,e2⟩:=h8;exact⟨_,_,_,by rw[hi3,e1,e2]⟩
 have out:∀ {x s' e3 h3},mkS P w sh ts os zE4 h1 s'=some (e3,h3)->WkP (qB env') (qB (pF sh.v zE4 h3 e3))->qBD (qD h3.l) (qD h'.l)->(zEY.ite (slG sh.v zE4 h3) (K x g' (pF sh.v zE4 h3 e3) h3) .fail).run=some r->∃ pe' ph',Wk P nm (qB env') (qD h'.l) pe' ph'∧EQ P N w env h K r x g' pe' ph':=fun {x s' e3 h3} hm3 w1 w2 hk=>by
  rcases run_ite hk with ⟨zMX,hk⟩ | ⟨_,hk⟩
  rotate_left 1
  ·cases hk
  obtain⟨g1,g2,g3,g4,g5⟩:=fin hm3 zMX;exact⟨_,_,Wk.drop w1 w2,pF sh.v zE4 h3 e3,h3,rfl,rfl,g1,g2,g3,g4.2.2.1,fun _=>g4,hk⟩
 cases ex with
 | normal =>
   simp only[qV2] at k5;obtain⟨zH3,k5⟩:=qG k5;split at k5
   case h_2=>cases k5
   rename_i s' hs';cases k5;obtain⟨e3,h3,hm3,w1,w2⟩:=back (fun h=>by cases h) zH3 hs';have hm3:mkS P w sh ts os zE4 h1 (g2 (gj g' s'))=some (e3,h3):=by rw[q12];exact hm3
   show zF1.normal=.normal∧WkP (qB env') (E (gj g' s'))∧qBD (Ph (gj g' s')) (qD h'.l)∧g'=g1 (gj g' s');rw[(hE hm3).1,(hE hm3).2,q23];exact⟨rfl,w1,w2,rfl⟩
 | exit j =>
   simp only[qV2] at k5;obtain⟨zH3,k5⟩:=qG k5;split at k5
   case h_2=>cases k5
   rename_i s' hs';obtain⟨e3,h3,hm3,w1,w2⟩:=back (fun h=>by cases h) zH3 hs';cases k5;intro hqe;refine⟨fun h=>by (cases h),?_⟩
   cases hj:Nat.beq j id with
   | true =>
     rw[hj] at hqe;subst hqe;have hjj:j=id:=zOH hj;subst hjj;have hafter:(goS (mkS P w sh ts os zE4 h1 (g2 (gj g' s'))) fun e hh=>zEY.ite (slG sh.v zE4 hh) (K .normal (g1 (gj g' s')) (pF sh.v zE4 hh e) hh) .fail).run=some r:=hafter;obtain⟨e4,h4,hm4,hk⟩:=o6 hafter;rw[q12,hm3] at hm4;cases hm4;rw[q23] at hk;exact BQY.on (out hm3 w1 w2 hk)
   | false =>
     rw[hj] at hqe;subst hqe;have hjj:j≠id:=fun h=>by rw[h,aC] at hj;cases hj
     obtain⟨e4,h4,hm4,hk⟩:=o6 (qOM hafter);rw[q12,hm3] at hm4;cases hm4;rw[q23,q12] at hk;exact BQY.ex hjj (out hm3 w1 w2 hk)
 | ret =>
   simp only[qV2] at k5;split at k5
   case h_2=>cases k5
   rename_i v hv;cases k5;intro hqe;subst hqe;have hbr:Keep hb h':=(zLH.trans f5).trans k0;have hkp:=hrd.kept _ _ _ k2 k1 hbr hv
   have hkh:∀ k o,slk k hb.l=some o->slk k h.l=some o:=fun k o hk=>by
    have h2:=hkp k o hk;have hw:o.w < h.next:=zOM (hrd.ob.ver k o hk) hbh.next;have zJG:Keep h h':=(zGE.2.2.1.trans f5).trans k0;exact zJG.same k o h2 hw
   have hkeep:Keep h ⟨h.next,hb.l⟩:=⟨zOI _,fun k ob hk _=>hkh k ob hk,fun k el gr g w t xs hk _=>⟨w,xs,hkh k _ hk,rfl⟩⟩
   have hafter:(K .ret (g1 (gj g' v)) (en (g2 (gj g' v))) ⟨h.next,hb.l⟩).run=some r:=hafter;rw[q23,q12] at hafter;refine⟨fun h=>by (cases h),BQY.rt ⟨_,_,hrd.wk _ _ _ k2 k1 k3 hbr hv,en v,⟨h.next,hb.l⟩,rfl,rfl,hrd.ok v _,q98 hrd.ob hbh.next,hrd.len v,hkeep,fun h=>absurd rfl h,hafter⟩⟩
 | goto l=>simp only[qV2] at k5;cases k5
def zAB (sh:Sh)(os:List (Nat×Bool))(ts:List Ty)(mk:TyL ts->Option (List SV×SH))(h1:SH):vM Γ (Unit⊕GS Γ (TyL ts)):=fun e g env h=>match e with
 | .normal=>(match bk sh os ts mk h1 h1 env h with
   | some s=>.ret (.inr (gj g s))
   | none=>.fail)
 | _=>.fail
def zAO (P:Program)(wa:List Nat)(j:zHM)(body:∀ {R':Type},GV Γ->List SV->SH->vM Γ R'->zEY R')(g:GV Γ)(env:List SV)(h:SH)(K:GV Γ->List SV->SH->zEY R):zEY R :=
 cond ((j.d++j.s.map (·.1)).all fun i=>mX i wa)
  (.loop (fun _:Unit=>body g env h (zAB j.sh j.os j.ts (mkS P wa j.sh j.ts j.os env h) h)) () fun q=>goS (mkS P wa j.sh j.ts j.os env h (g2 q)) fun e hh=>K (g1 q) e hh) .fail
omit [Gc] [Yl] in
theorem qD0 {ρ:Type}{f:Unit->Option (Unit⊕ρ)}{q:ρ}:∀ {n:Nat},vQ n f ()=some q->f ()=some (.inr q)
 | 0,h=>by cases h
 | n+1,h=>by
   unfold vQ at h;split at h
   ·exact qD0 h
   ·rename_i hf;cases h;exact hf
   ·cases h
theorem q0H {wa:List Nat}{j:zHM}{y:Code}{body:∀ {R':Type},GV Γ->List SV->SH->vM Γ R'->zEY R'}
 {g:GV Γ} {env:List SV} {h:SH} {K:GV Γ->List SV->SH->zEY R}
 (hbody:∀ {R':Type} {K:vM Γ R'} {r:R'},(body g env h K).run=some r->qU P G rd nm wd y g (qB env) (qD h.l) (EQ P N wa env h K r))
 (ho:OkH P h) (he:okL h env) (hl:env.length=N) (e:(zAO P wa j body g env h K).run=some r) :
 qU P G rd nm wd y g (qB env) (qD h.l) fun ex g' pe ph=>ex=.normal∧∃ zFH h2,pe=qB zFH∧ph=qD h2.l∧OkH P h2∧okL h2 zFH∧zFH.length=N∧xL P wa env h zFH h2∧(K g' zFH h2).run=some r:=by
 obtain⟨hsub,e1⟩:=qG e;obtain⟨q,hq,hafter⟩:=qPR e1;obtain⟨n,hn⟩:=bE hq;have hstep:=qD0 hn;obtain⟨e2,hh,hm,hk⟩:=o6 hafter;refine qU.post ((hbody hstep).mono ?_);rintro ex g' pe ph ⟨env',h',rfl,rfl,k1,k2,k3,k0,k4,k5⟩
 cases ex with
 | normal =>
   simp only[zAB] at k5;split at k5
   case h_2=>cases k5
   rename_i s' hbk;cases k5;rw[q12] at hm;rw[q23] at hk;unfold bk at hbk;split at hbk
   case h_2=>cases hbk
   rename_i a' b' c' ha' hb' hc';split at hbk
   case h_2=>cases hbk
   rename_i s2 hs2
   cases hc:(qS2 j.os h'&&(qI8 j.sh.s env' h'&&(mE (j.sh.b.map (·.1)) j.sh.b h h'&&(eP (j.sh.o++j.sh.b.map (·.1)) h h'&&(mkS P wa j.sh j.ts j.os env h s2).isSome)))) with
   | false=>rw[hc] at hbk;cases hbk
   | true =>
     rw[hc] at hbk;cases hbk;simp only[zOG] at hc;have zG1:=k4 fun h=>by cases h
     obtain⟨w1,w2⟩:=q1T k2 ho k1 ha' hb' hc' hs2 hm rfl hc.1 hc.2.1 hc.2.2.1 (fun k o hk hkb hk2=>nY ho zG1.2.2.1 hc.2.2.2.1 (by rw[zPJ,not_or];exact⟨hk,hkb⟩) hk2) (tY (k3.trans hl.symm) fun i hi=>zG1.2.2.2.1 i hi);obtain⟨m1,m2,m3,m4,m5,_⟩:=uO ho he hm
     have hin:∀ i,i ∉ wa->i ∉ j.d∧i ∉ j.s.map (·.1):=fun i hi=>by
      have hx:∀ z∈j.d++j.s.map (·.1),z∈wa:=fun z hz=>xK.1 (zOJ.1 hsub z hz)
      exact⟨fun h=>hi (hx i (zPV _ h)),fun h=>hi (hx i (zQH _ h))⟩
     exact⟨_,_,Wk.drop w1 w2,rfl,e2,hh,rfl,rfl,m2,m3,m4.trans hl,⟨m3,m2,m1,fun i hi=>m5 i hi (hin i hi).1 (hin i hi).2,m4⟩,hk⟩
 | exit _=>cases k5
 | ret=>cases k5
 | goto _=>cases k5
end
end Go.Sv
namespace Go.Sv
open Go.Idl
noncomputable section
variable [Gc]
variable [Yl]
variable {P:Program}{Γ:Option Type}{R:Type}{r:R}{nm:Nm}{G:Nat->Bool}{rd:Bool}{N:Nat}{rs:List Ty}{tab:uT}{nat:xC}{good:FuncId->Bool}{wd:Wld (GV Γ)}
omit [Yl] in
theorem qCW:∀ {ts:List Ty} {x:TyL ts} {y:PV},y∈pvL ts x->∃ (t:Ty) (z:t.sem),y=t.pv z
 | [],_,_,h=>by cases h
 | [t],x,y,h=>⟨t,x,by simpa [pvL] using h⟩
 | t::u::ts,x,y,h=>by
   have h:y∈t.pv x.1::pvL (u::ts) x.2:=h;rcases zO1.1 h with q | q
   ·exact⟨t,x.1,q⟩
   ·exact qCW q
omit [Yl] in
theorem qYD (t:Ty)(x:t.sem):qKP (t.pv x)=true:=by
 unfold Ty.pv
 cases t.one with
 | true=>rfl
 | false =>
   show ((t.cells x).map PV.f).all qS4=true;rw[zOJ];intro y hy;obtain⟨c,_,rfl⟩:=zO6.1 hy;rfl
omit [Yl] in
theorem q6W {Z:Nat->Prop}{H:IH}{M M':Nat->Option (Nat×PO)}{ts:List Ty}{x:TyL ts}{vs:List Value}(h:VRL P Z H M (pvL ts x) vs):VRL P Z H M' (pvL ts x) vs:=⟨h.len,fun i y v a b=>by
 obtain⟨t,z,rfl⟩:=qCW (zPP a)
 exact bQ (h.val i _ v a b) (qYD t z)⟩
omit [Yl] in
theorem qGZ:∀ (ts:List Ty) (x:TyL ts),(svL ts x).length=ts.length
 | [],_=>rfl
 | [_],_=>rfl
 | t::u::ts,x=>by
   show (t.sv x.1::svL (u::ts) x.2).length=_;simp only[zO4,qGZ (u::ts)]
def q00 (t:Ty)(x:t.sem):PV:=.lp (t.cells x) 0
def q7H:(ts:List Ty)->TyL ts->List PV
 | [],_=>[]
 | [t],x=>[q00 t x]
 | t::u::ts,x=>q00 t x.1::q7H (u::ts) x.2
def qNR:(ts:List Ty)->TyL ts->List SV
 | [],_=>[]
 | [t],x=>[.lp t [x] 0 0]
 | t::u::ts,x=>.lp t [x.1] 0 0::qNR (u::ts) x.2
theorem qGV:∀ (ts:List Ty) (x:TyL ts),qB (qNR ts x)=q7H ts x
 | [],_=>by simp[qNR,q7H,qB]
 | [t],x=>by simp[qNR,q7H,qB,SV.enc,q00]
 | t::u::ts,x=>by
   show qB (.lp t [x.1] 0 0::qNR (u::ts) x.2)=q00 t x.1::q7H (u::ts) x.2;simp only[qB,qGV (u::ts)];simp[SV.enc,q00]
omit [Yl] in
theorem qXP {h:SH}:∀ (ts:List Ty) (x:TyL ts),okL h (qNR ts x)
 | [],_=>by simp[qNR,okL]
 | [t],x=>by simp[qNR,okL,SV.ok]
 | t::u::ts,x=>by
   show okL h (.lp t [x.1] 0 0::qNR (u::ts) x.2);simp only[okL,SV.ok,true_and];exact qXP (u::ts) x.2
omit [Yl] in
theorem qG8:∀ (ts:List Ty) (x:TyL ts),(qNR ts x).length=ts.length
 | [],_=>rfl
 | [_],_=>rfl
 | t::u::ts,x=>by
   show (SV.lp t [x.1] 0 0::qNR (u::ts) x.2).length=_;simp only[zO4,qG8 (u::ts)]
def qAW (P:Program)(t:Ty)(v:SV)(h:SH):Option (t.sem×SH):=match v with
 | .ref k off w=>(match slk k h.l with
   | some (.cells el _ l)=>cond (!spec P el&&(Nat.beq off 0&&Nat.beq w l.length)) (match t.zH0 P (vT P 8 el) l (h.del k) with
     | some (x,_,[],h')=>some (x,h')
     | _=>none) none
   | _=>none)
 | _=>none
def bI (P:Program):(ts:List Ty)->List SV->SH->Option (TyL ts×SH)
 | [],[],h=>some ((),h)
 | [t],[v],h=>qAW P t v h
 | t::u::ts,v::vs,h=>match qAW P t v h with
   | some (x,h1)=>(match bI P (u::ts) vs h1 with
     | some (y,h2)=>some ((x,y),h2)
     | none=>none)
   | none=>none
 | _,_,_=>none
theorem qCY {t:Ty}{v:SV}{h:SH}{x:t.sem}{h':SH}(ho:OkH P h)(e:qAW P t v h=some (x,h')) :
 Keep h h'∧OkH P h'∧∀ (Z:Nat->Prop) (H:IH) (m:Nat->Nat) (u:Value),Hp P Z H (own m (qD h.l))->VR P Z H (own m (qD h.l)) v.enc u->∃ Z',Fz P Z H m (qD h.l) Z' (qD h'.l)∧VR P Z' H (fun _=>none) (q00 t x) u:=by
 unfold qAW at e;split at e
 case h_2=>cases e
 rename_i k off w;split at e
 case h_2=>cases e
 rename_i el w0 l hk
 cases hc:(!spec P el&&(Nat.beq off 0&&Nat.beq w l.length)) with
 | false=>rw[hc] at e;cases e
 | true =>
   rw[hc] at e;simp only[cond_true] at e;rw[zOG,zO3] at hc;obtain⟨hsp,hc⟩:=hc;rw[zOG] at hc;have h1:off=0:=zOH hc.1;have h2:w=l.length:=zOH hc.2;subst h1 h2;split at e
   case h_2=>cases e
   rename_i y zFF h2 hd;cases e;have hd0:=gU (k:=k) ho;obtain⟨a1,a2,a3,ys,a4,a5⟩:=qBL hd0.2 (qI hd0.1 (ho.cells _ _ _ _ hk)) hd;refine⟨hd0.1.trans a2,a3,fun Z H m u hp hv=>?_⟩;have hkp:=zP hk;have zFO:real (SO.cells el w0 l).enc:=fun q=>by cases q.1
   obtain⟨w1,w2,w3,vs,q1,q2,q3⟩:=hp.real hkp zFO hsp;have hcut:=Fz.del hp hkp zFO;have hfz:=a4 [] (qD h'.l) (by simp[qB,tH]);rw[zQB] at hfz;rw[show qD (h.del k).l=nR k (qD h.l) from fB k _] at hfz;obtain⟨Z2,c2,r2⟩:=qA9 (fun a b c=>qK2 4 a b c) hcut.hp (hcut.vrl q2) hfz;refine⟨Z2,hcut.trans c2,?_⟩;simp only[SV.enc] at hv
   cases hv with
   | ref g1 g2 =>
     obtain⟨_,g3⟩:=g2 _ _ (qN hkp);obtain⟨rfl,_⟩:=g3 (by simp[SO.enc,qQ]);have hrt:=qEI (P:=P) (M:=fun _=>none) (f:=rtC P) (ts:=vT P 8 el) (fun t x v h=>q4N h) (r2.map (P:=P) (M:=fun _=>none));have h5:=(a5 []).1;rw[zQB] at h5;rw[h5] at hrt
     have hrt:VRL P Z2 H (fun _=>none) ((t.cells x).map .f) vs:=by
      cases zFF <;> simpa [rtL] using hrt
     have hlen:(t.cells x).length=vs.length:=by have:=hrt.len;simpa using this
     refine .lp (o:=0) (vs:=vs) (c2.zle _ (.inr rfl)) w1 ?_ ?_
     ·rw[hlen];exact xO q1 (by omega) (by simp)
     ·intro i y v hy hvv;have:=hrt.val i (.f y) v (by rw[zOX,hy];rfl) hvv
      cases this with
      | f h=>exact h
theorem qET:∀ {ts:List Ty} {vs:List SV} {h:SH} {x:TyL ts} {h':SH},OkH P h->bI P ts vs h=some (x,h') ->
 Keep h h'∧OkH P h'∧∀ (Z:Nat->Prop) (H:IH) (m:Nat->Nat) (us:List Value),Hp P Z H (own m (qD h.l))->VRL P Z H (own m (qD h.l)) (qB vs) us->∃ Z',Fz P Z H m (qD h.l) Z' (qD h'.l)∧VRL P Z' H (fun _=>none) (q7H ts x) us
 | [],[],h,x,h',ho,e=>by
   unfold bI at e;cases e;refine⟨.refl _,ho,fun Z H m us hp hv=>⟨Z,.refl hp,?_⟩⟩;simp only[qB] at hv;rw[hv.zE5];exact .nil
 | [t],[v],h,x,h',ho,e=>by
   unfold bI at e;obtain⟨a1,a2,a3⟩:=qCY ho e;refine⟨a1,a2,fun Z H m us hp hv=>?_⟩;simp only[qB] at hv;obtain⟨u,us',rfl,b1,b2⟩:=hv.zE2;obtain⟨Z',c1,c2⟩:=a3 Z H m u hp b1;rw[b2.zE5];exact⟨Z',c1,.cons c2 .nil⟩
 | t::u::ts,v::vs,h,x,h',ho,e=>by
   unfold bI at e;split at e
   case h_2=>cases e
   rename_i x1 h1 hd;split at e
   case h_2=>cases e
   rename_i y h2 hd2;cases e;obtain⟨a1,a2,a3⟩:=qCY ho hd;obtain⟨b1,b2,b3⟩:=qET a2 hd2;refine⟨a1.trans b1,b2,fun Z H m us hp hv=>?_⟩;simp only[qB] at hv;obtain⟨w,us',rfl,d1,d2⟩:=hv.zE2;obtain⟨Z1,c1,c2⟩:=a3 Z H m w hp d1;obtain⟨Z2,f1,f2⟩:=b3 Z1 H m us' c1.hp (c1.vrl d2);exact⟨Z2,c1.trans f1,.cons (c2.mono (p:=fun _=>false) f1.zle (zOI _) (fun _ _ _=>rfl) (.refl _ _) fun j hj=>by cases hj) f2⟩
 | [],_::_,_,_,_,_,e=>by cases e
 | t::ts,[],_,_,_,_,e=>by cases ts <;> (unfold bI at e;cases e)
 | [_],_::_::_,_,_,_,_,e=>by unfold bI at e;cases e
def q3Q (P:Program)(G:Nat->Bool)(f:FuncId)(ent:zFI):Prop:=entered P f=true∧∀ (x:TyL ent.as) (γ:Type) (stp:γ->TyL ent.ys->Option (γ×Bool)) (g0 g1:γ),ent.F x γ stp g0=some g1->∀ (w:Wld γ) (l:Nat),
 (∀ g y g' b,stp g y=some (g',b)->qKQ P G w l g (pvL ent.ys y) g' b)->∀ (Z:Nat->Prop) (H:IH) (D:Nat->Prop) (us:List Value),(∀ b,Z b->b < H.size)->H.base<=H.size->q3E Z H->w.W g0 Z H D->VRL P Z H (fun _=>none) (q7H ent.as x) us ->
 uS P G f (.func (.yield l) #[] #[]::us) H fun r=>∃ Z' D',(∀ b,Z' b->b < r.2.size)∧w.W g1 Z' r.2 D'∧StW Z H D Z' r.2 D'
def q3T (P:Program)(G:Nat->Bool)(IT:List (FuncId×zFI)):Prop:=∀ f ent,slI f IT=some ent->q3Q P G f ent
def qC9:List Nat->List SV->List SV->List SV
 | i::is,v::vs,env=>qC9 is vs (yR env i v)
 | _,_,env=>env
def noSh (sh:Sh):Bool:=sh.d.isEmpty&&(sh.s.isEmpty&&sh.v.isEmpty)
def q0T (sh:Sh)(os:List (Nat×Bool))(ts:List Ty)(mk:TyL ts->Option (List SV×SH))(h1 hh:SH):vM Γ (GS Γ (TyL ts)×Bool):=fun e g env h=>match e with
 | .normal=>(match bk sh os ts mk h1 hh env h with
   | some s=>.ret (gj g s,true)
   | none=>.fail)
 | _=>.fail
def zC6 {R:Type}(k:GV Γ->List SV->SH->zEY R):vM Γ R:=fun e g env h=>match e with
 | .normal=>k g env h
 | _=>.fail
def rgN (nm:Nm)(l:List Nat):Nm:=⟨nm.b,fun k=>nm.p k&&!mX k l⟩
def q2Z (P:Program)(G:Nat->Bool)(IT:List (FuncId×zFI))(nm:Nm)(sh:Sh)(v:Operand)(ps:Array Tmp)(bx bY:Code)(x y:∀ {R':Type},Nm->GV Γ->List SV->SH->vM Γ R'->zEY R')(g:GV Γ)(env:List SV)(h:SH)(K:vM Γ R):zEY R :=
 qV4 P nm (sh.b.map (·.1)) sh.bv env h fun env h1=>match kG env v with
  | .fn f [] caps=>(match slI f IT with
    | some ent=>(match bI P ent.as caps h1 with
      | some (z,h2)=>(match qS1 sh.o h2,qY1 sh.b h2,q64 sh.o h2 with
        | some b,some c,some os=>(match zC2 (b++c) with
          | some ts=>(match tK ts (b++c) with
            | some s0=>cond (noSh sh&&(mE (sh.b.map (·.1)) sh.b h2 h2&&(Nat.beq ps.size ent.ys.length&&(kV G v&&(codeOk G true bx&&codeOk G true bY)))))
               (goS (mkS P [] sh ts os env h2 s0) fun _ _=>.bind (ent.F z (GS Γ (TyL ts)) (fun s w=>(goS (mkS P [] sh ts os env h2 (g2 s)) fun e hh=>x (rgN nm (h2.l.map (·.1)++(os.map (·.1)++sh.b.map (·.1)))) (g1 s) (qC9 ps.toList (svL ent.ys w) e) hh
                 (zC6 fun g3 e3 h3=>y (rgN nm (h2.l.map (·.1)++(os.map (·.1)++sh.b.map (·.1)))) g3 e3 h3 (q0T sh os ts (mkS P [] sh ts os env h2) h2 hh))).run) (gj g s0))
                 fun q=>goS (mkS P [] sh ts os env h2 (g2 q)) fun e hh=>K .normal (g1 q) e hh) .fail
            | none=>.fail)
          | none=>.fail)
        | _,_,_=>.fail)
      | none=>.fail)
    | none=>.fail)
  | _=>.fail
omit [Yl] in
theorem qKK:∀ (i:Nat) (l:List SV),blank [] i l=l
 | _,[]=>rfl
 | i,x::l=>by simp[blank,mX,qKK (i+1) l]
omit [Yl] in
theorem qHC {sh:Sh}{ts:List Ty}{os:List (Nat×Bool)}{env e2:List SV}{h1 h2:SH}{s:TyL ts}(hn:noSh sh=true)(hm:mkS P [] sh ts os env h1 s=some (e2,h2)):e2=env:=by
 unfold noSh at hn;simp only[zOG,zSK] at hn;unfold mkS at hm;rw[hn.1,hn.2.1] at hm;split at hm
 ·split at hm
  ·split at hm
   ·rename_i e3 hss;cases hm;have:some (blank [] 0 env)=some e2:=hss;rw[qKK] at this;exact (zPC this).symm
   ·cases hm
  ·cases hm
 ·cases hm
omit [Yl] in
theorem qKA:∀ (ps:List Nat) (vs env:List SV),(qC9 ps vs env).length=env.length
 | [],vs,env=>rfl
 | i::is,[],env=>rfl
 | i::is,v::vs,env=>by
   show (qC9 is vs (yR env i v)).length=_;rw[qKA is,jI]
omit [Yl] in
theorem qP1 {h:SH}:∀ {ps:List Nat} {vs env:List SV},okL h vs->okL h env->okL h (qC9 ps vs env)
 | [],vs,env,_,he=>he
 | i::is,[],env,_,he=>he
 | i::is,v::vs,env,hv,he=>by
   simp only[okL] at hv;exact qP1 (ps:=is) hv.2 (xG he hv.1)
theorem qKM {Z:Nat->Prop}{H:IH}{M:Nat->Option (Nat×PO)}:∀ {ps:List Nat} {vs env:List SV} {ws zEZ:List Value},VRL P Z H M (qB vs) ws->VRL P Z H M (qB env) zEZ->VRL P Z H M (qB (qC9 ps vs env)) ((ps.zip ws).foldl (fun e p=>yR e p.1 p.2) zEZ)
 | [],vs,env,ws,zEZ,_,he=>he
 | i::is,[],env,ws,zEZ,hv,he=>by
   simp only[qB] at hv;rw[hv.zE5];exact he
 | i::is,v::vs,env,ws,zEZ,hv,he=>by
   simp only[qB] at hv;obtain⟨w,ws',rfl,a1,a2⟩:=hv.zE2;show VRL P Z H M (qB (qC9 is vs (yR env i v))) ((is.zip ws').foldl (fun e p=>yR e p.1 p.2) (yR zEZ i w));refine qKM a2 ?_;rw[xZ,qX,qX];exact he.set a1 i
def rgW (P:Program)(wd:Wld (GV Γ))(env:List SV)(h0:SH)(zEZ:Env)(H0:IH)(m0:Nat->Nat)(D0:Nat->Prop)(lp:Loop){S:Type}(mk:S->Option (List SV×SH)):Wld (GS Γ S) where
 W q Z H D:=∃ e hh m Dg,mk (g2 q)=some (e,hh)∧St P wd (g1 q) (qB env) (qD hh.l) Z H m zEZ Dg∧H.get H0.size=some (.loop lp)∧H0.size < H.size∧¬ dH (own m (qD hh.l)) H0.size∧¬ Dg H0.size∧¬ Z H0.size ∧
  (∀ b,D b ↔ dH (own m (qD hh.l)) b∨Dg b∨b=H0.size)∧KR (fun _=>false) (own m0 (qD h0.l)) (own m (qD hh.l))∧(∀ b,dH (own m (qD hh.l)) b->b < H0.size->dH (own m0 (qD h0.l)) b)∧(∀ b,Dg b->b < H0.size->D0 b)∧H.base=H0.base
 lt:=by
  rintro g Z H D ⟨e,hh,m,Dg,a1,a2,a3,a4,a5,a6,a7,a8,_⟩ b hb;rcases (a8 b).1 hb with q | q | q
  ·exact (aS a2.hp q).1
  ·exact wd.lt a2.wd b q
  ·rw[q];exact a4
 nz:=by
  rintro g Z H D ⟨e,hh,m,Dg,a1,a2,a3,a4,a5,a6,a7,a8,_⟩ b hb;rcases (a8 b).1 hb with q | q | q
  ·exact (aS a2.hp q).2
  ·exact wd.nz a2.wd b q
  ·rw[q];exact a7
 keep:=by
  rintro g Z H D Z' H' ⟨e,hh,m,Dg,a1,a2,a3,a4,a5,a6,a7,a8,a9,a10,a11,a12⟩ hz hl hs hb hg hn;refine⟨e,hh,m,Dg,a1,a2.other hz hl hs hb (fun b h1 h2=>hg b h1 ?_) (fun b h=>hn b ((a8 b).2 ?_)),?_,zOM a4 hs,a5,a6,hn _ ((a8 _).2 (.inr (.inr rfl))),a8,a9,a10,a11,hb.trans a12⟩
  ·rcases h2 with q | q | q
   ·exact .inl ((a8 b).2 (.inl q))
   ·exact .inl ((a8 b).2 (.inr (.inl q)))
   ·exact .inr q
  ·rcases h with q | q
   ·exact .inl q
   ·exact .inr (.inl q)
  ·rw[hg _ a4 (.inl ((a8 _).2 (.inr (.inr rfl))))];exact a3
omit [Yl] in
theorem q6V {R:Type}{k:GV Γ->List SV->SH->zEY R}{e:zF1}{g:GV Γ}{env:List SV}{h:SH}{r:R}(q:(zC6 k e g env h).run=some r):e=.normal∧(k g env h).run=some r:=by
 cases e with
 | normal=>exact⟨rfl,q⟩
 | _=>cases q
omit [Yl] in
theorem q0V {sh:Sh}{os:List (Nat×Bool)}{ts:List Ty}{mk:TyL ts->Option (List SV×SH)}{h1 hh:SH}{e:zF1}{g:GV Γ}{env:List SV}{h:SH}{r:GS Γ (TyL ts)×Bool}(q:(q0T sh os ts mk h1 hh e g env h).run=some r) :
 e=.normal∧∃ s,bk sh os ts mk h1 hh env h=some s∧r=(gj g s,true):=by
 cases e with
 | normal =>
   simp only[q0T] at q;split at q
   ·rename_i s hs;cases q;exact⟨rfl,s,hs,rfl⟩
   ·cases q
 | _=>cases q
theorem q2S {sh:Sh}{ts:List Ty}{os:List (Nat×Bool)}{env:List SV}{h2:SH}{zEZ:Env}{H0:IH}{m0:Nat->Nat}{D0:Nat->Prop}{lp:Loop}{bx bY:Code}{x y:∀ {R':Type},Nm->GV Γ->List SV->SH->vM Γ R'->zEY R'}{wx wy:List Nat}{ent:zFI}{ks:List Nat}{hb:SH}
 (hx:∀ {R':Type} {nm:Nm} {g:GV Γ} {env:List SV} {h:SH} {K:vM Γ R'} {r:R'},OkH P h->okL h env->env.length=N->Keep hb h->(x nm g env h K).run=some r->qU P G true nm wd bx g (qB env) (qD h.l) (EQ P N wx env h K r))
 (hy:∀ {R':Type} {nm:Nm} {g:GV Γ} {env:List SV} {h:SH} {K:vM Γ R'} {r:R'},OkH P h->okL h env->env.length=N->Keep hb h->(y nm g env h K).run=some r->qU P G true nm wd bY g (qB env) (qD h.l) (EQ P N wy env h K r))
 (ho2:OkH P h2) (he2:okL h2 env) (hbh:Keep hb h2) (hl:env.length=N) (hn:noSh sh=true) (hos:os.map (·.1)=sh.o) (hks:∀ k,k ∉ ks->k ∉ os.map (·.1)∧k ∉ sh.b.map (·.1)∧slk k h2.l=none)
 (hr1:lp.state=.ready) (hr2:lp.pending=none) (hr3:lp.tmps.toList=zEZ) (hr5:lp.assign=bx) (hr6:lp.body=bY) (hps:lp.params.size=ent.ys.length)
 {q q':GS Γ (TyL ts)} {w:TyL ent.ys} {b:Bool} (e:(goS (mkS P [] sh ts os env h2 (g2 q)) fun e hh=>x (rgN nm ks) (g1 q) (qC9 lp.params.toList (svL ent.ys w) e) hh (zC6 fun g3 e3 h3=>y (rgN nm ks) g3 e3 h3 (q0T sh os ts (mkS P [] sh ts os env h2) h2 hh))).run=some (q',b)) :
 qKQ P G (rgW P wd env h2 zEZ H0 m0 D0 lp (mkS P [] sh ts os env h2)) H0.size q (pvL ent.ys w) q' b:=by
 obtain⟨e2,hh,hm,hb2⟩:=o6 e;have he:=qHC hn hm;subst he;intro Z H D ivs hz hbs hW hv;obtain⟨e',hh',m,Dg,a1,a2,a3,a4,a5,a6,a7,a8,a9,a10,a11,a12⟩:=hW;rw[hm] at a1;cases a1;obtain⟨m1,m2,m3,m4,m5,m6⟩:=uO ho2 he2 hm;have hlen:ivs.length=lp.params.size:=by rw[<-hv.len,<-qBJ,qQ,qGZ,hps]
 have zMY:okL hh (qC9 lp.params.toList (svL ent.ys w) e2):=qP1 (qCM _ _) m3;refine qT0 a3 hr1 hlen ?_;rw[hr5,hr3]
 have hs0:St P wd (g1 q) (qB (qC9 lp.params.toList (svL ent.ys w) e2)) (qD hh.l) Z H m ((lp.params.toList.zip ivs).foldl (fun e p=>yR e p.1 p.2) zEZ) Dg:=by
  refine⟨a2.hp,qKM ?_ a2.vrl,a2.wd,a2.dis⟩;rw[qBJ];exact q6W hv
 refine (hx m2 zMY (by rw[qKA,m4,hl]) (hbh.trans m1) hb2 Z H m _ Dg hs0 hbs).mono ?_;rintro o ⟨Z2,m2',pe3,ph3,g3,D3,st3,sd3,kr3,e3,h3,rfl,rfl,k1,k2,k3,k0,k4,k5⟩;obtain⟨hoe,k5⟩:=q6V k5;have hl3:¬ dH (own m2' (qD h3.l)) H0.size:=fun h=>a5 (sd3.onew _ h a4)
 have hD3:¬ D3 H0.size:=fun h=>a6 (sd3.zGH _ h a4)
 have hZ3:¬ Z2 H0.size:=fun h=>by
  rcases sd3.zFZ _ h a4 with q | q | q
  ·exact a7 q
  ·exact a5 q
  ·exact a6 q
 have hg3:o.H.get H0.size=some (.loop lp):=(sd3.keep _ a4 a5 a6).trans a3;refine⟨hoe,lp,hg3,hr1,?_⟩;subst hr6;have hlt3:H0.size < o.H.size:=zOM a4 sd3.size
 have st4:St P wd g3 (qB e3) (qD h3.l) Z2 (o.H.put H0.size (.loop { lp with state:=.busy })) m2' o.env D3:=by
  refine st3.other (fun _ h=>h) st3.hp.zlt (zOI _) rfl (fun b hb h=>xP fun e=>?_) (fun b h=>?_)
  ·subst e;rcases h with h | h | h
   ·exact hl3 h
   ·exact hD3 h
   ·exact hZ3 h
  ·rcases h with h | h
   ·exact (aS st3.hp h).2
   ·exact wd.nz st3.wd b h
 have hb4:(o.H.put H0.size (.loop { lp with state:=.busy })).base<=(o.H.put H0.size (.loop { lp with state:=.busy })).size:=by
  show o.H.base<=o.H.size;rw[sd3.base];exact zO7 hbs sd3.size
 refine (hy k2 k1 k3 ((hbh.trans m1).trans k0) k5 Z2 _ m2' o.env D3 st4 hb4).mono ?_;rintro s ⟨Z5,m5',pe5,ph5,g5,D5,st5,sd5,kr5,e5,h5,rfl,rfl,l1,l2,l3,l0,l4,l5⟩;obtain⟨hse,s',hbk,hqe⟩:=q0V l5;cases hqe;have zIO:H0.size < (o.H.put H0.size (.loop { lp with state:=.busy })).size:=hlt3;have hg5:s.H.get H0.size=some (.loop { lp with state:=.busy }):=(sd5.keep _ zIO hl3 hD3).trans (dJ);have hl5:¬ dH (own m5' (qD h5.l)) H0.size:=fun h=>hl3 (sd5.onew _ h zIO)
 have hD5:¬ D5 H0.size:=fun h=>hD3 (sd5.zGH _ h zIO)
 have hZ5:¬ Z5 H0.size:=fun h=>by
  rcases sd5.zFZ _ h zIO with q | q | q
  ·exact hZ3 q
  ·exact hl3 q
  ·exact hD3 q
 have zMZ:H0.size < s.H.size:=zOM zIO sd5.size;refine⟨_,hg5,?_,?_⟩
 ·rw[hse];rfl
 have hlp:({ ({ lp with state:=LoopState.busy }:Loop) with state:=if (yX s.e).isNone then LoopState.ready else LoopState.done,pending:=yX s.e }:Loop)=lp:=by
  rw[hse];cases lp;simp only at hr1 hr2;subst hr1 hr2;rfl
 show ∃ Z' D',(∀ b,Z' b->b < (s.H.put H0.size (.loop { ({ lp with state:=LoopState.busy }:Loop) with state:=if (yX s.e).isNone then LoopState.ready else LoopState.done,pending:=yX s.e })).size)∧(rgW P wd e2 h2 zEZ H0 m0 D0 lp (mkS P [] sh ts os e2 h2)).W (gj g5 s') Z' (s.H.put H0.size (.loop { ({ lp with state:=LoopState.busy }:Loop) with state:=if (yX s.e).isNone then LoopState.ready else LoopState.done,pending:=yX s.e })) D'∧StW Z H D Z' (s.H.put H0.size (.loop { ({ lp with state:=LoopState.busy }:Loop) with state:=if (yX s.e).isNone then LoopState.ready else LoopState.done,pending:=yX s.e })) D';rw[hlp];unfold bk at hbk;split at hbk
 case h_2=>cases hbk
 rename_i a' b' c' ha' hb' hc';split at hbk
 case h_2=>cases hbk
 rename_i s2 hs2
 cases hc:(qS2 os h5&&(qI8 sh.s e5 h5&&(mE (sh.b.map (·.1)) sh.b h2 h5&&(eP (sh.o++sh.b.map (·.1)) hh h5&&(mkS P [] sh ts os e2 h2 s2).isSome)))) with
 | false=>rw[hc] at hbk;cases hbk
 | true =>
   rw[hc] at hbk;cases hbk;simp only[zOG] at hc;obtain⟨⟨e6,h6⟩,hm6⟩:=zPN.1 hc.2.2.2.2;have he6:=qHC hn hm6;subst he6
   have hsd:sh.d=[]:=by
    unfold noSh at hn;simp only[zOG,zSK] at hn;exact hn.1
   have hw2:qB (dI sh.d (svL ts s') (blank [] 0 e6)).2=qB (b'++c'):=by
    rw[hsd] at ha' ⊢;cases ha';exact (aK hs2).symm
   obtain⟨ho6,_,hsub⟩:=qOE l2 ho2 hb' hc' hw2 hm6 hos hc.1 hc.2.2.1 (fun k o hk hkb hk2=>nY m2 (k0.trans l0) hc.2.2.2.1 (by rw[zPJ,not_or];exact⟨hk,hkb⟩) (by rw[m6 k (by rw[hos];exact hk) hkb];exact hk2));obtain⟨_,_,_,_,_,n6⟩:=uO ho2 he2 hm6;have hfz:=Fz.drop st5.hp (qB5 hsub)
   have keep:∀ b,b < H.size->¬ dH (own m (qD hh.l)) b->¬ Dg b->b≠H0.size->s.H.get b=H.get b:=fun b h1 h2 h3 h4=>by
    have g1:=sd3.keep b h1 h2 h3;have hb3:b < o.H.size:=zOM h1 sd3.size;have g2:(o.H.put H0.size (.loop { lp with state:=.busy })).get b=o.H.get b:=xP h4;exact (sd5.keep b hb3 (fun h=>h2 (sd3.onew b h h1)) fun h=>h3 (sd3.zGH b h h1)).trans (g2.trans g1)
   have hzk:∀ b,Z b->b < H.size->s.H.get b=H.get b:=fun b h1 h2=>keep b h2 (fun h=>(aS a2.hp h).2 h1) (fun h=>wd.nz a2.wd b h h1) fun e=>a7 (e ▸ h1)
   have hz5:∀ b,Z b->Z5 b:=fun b h=>sd5.zle b (sd3.zle b h)
   have hsz:H.size<=s.H.size:=zO7 sd3.size sd5.size;have hbase:s.H.base=H.base:=sd5.base.trans sd3.base
   have hkr:KR (fun _=>false) (own m (qD hh.l)) (own m5' (qD h6.l)):=by
    refine KR.none ((kr3.trans kr5).trans (hfz.kr _)) fun k o hk=>?_
    rw[vC] at hk;obtain⟨o',q1,_⟩:=zOR.1 hk;show (nm.p k&&!mX k ks)=false
    cases hmm:mX k ks with
    | true=>simp
    | false =>
      exfalso;obtain⟨r1,r2,r3⟩:=hks k fun hm=>by rw[xK.2 hm] at hmm;cases hmm
      rw[n6 k r1 r2,r3] at q1;cases q1
   have zHU:∀ b,dH (own m5' (qD h6.l)) b->dH (own m5' (qD h5.l)) b:=fun b ⟨k,ob,h1,h2⟩=>⟨k,ob,hfz.zHD h1,h2⟩
   have zIP:∀ b,dH (own m5' (qD h6.l)) b->b < H.size->dH (own m (qD hh.l)) b:=fun b h1 h2=>sd3.onew b (sd5.onew b (zHU b h1) (zOM h2 sd3.size)) h2
   have zJW:∀ b,D5 b->b < H.size->Dg b:=fun b h1 h2=>sd3.zGH b (sd5.zGH b h1 (zOM h2 sd3.size)) h2
   have st6:St P wd g5 (qB e6) (qD h6.l) Z5 s.H m5' zEZ D5:=⟨hfz.hp,a2.vrl.mono (p:=fun _=>false) hz5 hsz hzk hkr (fun j hj=>by cases hj),st5.wd,fun b h1 h2=>st5.dis b h1 (zHU b h2)⟩
   have st7:St P wd g5 (qB e6) (qD h6.l) Z5 (s.H.put H0.size (.loop lp)) m5' zEZ D5:=by
    refine st6.other (fun _ h=>h) st6.hp.zlt (zOI _) rfl (fun b hb h=>xP fun e=>?_) (fun b h=>?_)
    ·subst e;rcases h with h | h | h
     ·exact hl5 (zHU _ h)
     ·exact hD5 h
     ·exact hZ5 h
    ·rcases h with h | h
     ·exact (aS st6.hp h).2
     ·exact wd.nz st6.wd b h
   refine⟨Z5,fun b=>dH (own m5' (qD h6.l)) b∨D5 b∨b=H0.size,st6.hp.zlt,⟨e6,h6,m5',D5,by rw[q12];exact hm6,by rw[q23];exact st7,dJ,zMZ,fun h=>hl5 (zHU _ h),hD5,hZ5,fun b=>Iff.rfl,a9.trans hkr,fun b h1 h2=>a10 b (zIP b h1 (Nat.lt_trans h2 a4)) h2,fun b h1 h2=>a11 b (zJW b h1 (Nat.lt_trans h2 a4)) h2,hbase.trans a12⟩,?_⟩;refine⟨hsz,hbase,hz5,fun b h1 _ h3=>?_,fun b h1 h2=>?_,fun b h1 _=>absurd h1 (qDI b),fun b h1 h2=>?_⟩
   ·have hb:b≠H0.size:=fun e=>h3 ((a8 b).2 (.inr (.inr e)))
    exact (xP hb).trans (keep b h1 (fun h=>h3 ((a8 b).2 (.inl h))) (fun h=>h3 ((a8 b).2 (.inr (.inl h)))) hb)
   ·rcases sd5.zFZ b h1 (zOM h2 sd3.size) with h | h | h
    ·rcases sd3.zFZ b h h2 with h | h | h
     ·exact .inl h
     ·exact .inr (.inr ((a8 b).2 (.inl h)))
     ·exact .inr (.inr ((a8 b).2 (.inr (.inl h))))
    ·exact .inr (.inr ((a8 b).2 (.inl (sd3.onew b h h2))))
    ·exact .inr (.inr ((a8 b).2 (.inr (.inl (sd3.zGH b h h2)))))
   ·rcases h1 with h | h | h
    ·exact (a8 b).2 (.inl (zIP b h h2))
    ·exact (a8 b).2 (.inr (.inl (zJW b h h2)))
    ·exact (a8 b).2 (.inr (.inr h))
theorem qYO {IT:List (FuncId×zFI)}(s:zFT P good nat G tab)(hit:q3T P G IT){sh:Sh}{v:Operand}{ps:Array Tmp}{bx bY:Code}{x y:∀ {R':Type},Nm->GV Γ->List SV->SH->vM Γ R'->zEY R'}{wx wy:List Nat}{hb:SH}
 (hx:∀ {R':Type} {nm:Nm} {g:GV Γ} {env:List SV} {h:SH} {K:vM Γ R'} {r:R'},OkH P h->okL h env->env.length=N->Keep hb h->(x nm g env h K).run=some r->qU P G true nm wd bx g (qB env) (qD h.l) (EQ P N wx env h K r))
 (hy:∀ {R':Type} {nm:Nm} {g:GV Γ} {env:List SV} {h:SH} {K:vM Γ R'} {r:R'},OkH P h->okL h env->env.length=N->Keep hb h->(y nm g env h K).run=some r->qU P G true nm wd bY g (qB env) (qD h.l) (EQ P N wy env h K r))
 {g:GV Γ} {env:List SV} {h:SH} {K:vM Γ R} (ho:OkH P h) (he:okL h env) (hl:env.length=N) (hbh:Keep hb h) (e:(q2Z P G IT nm sh v ps bx bY x y g env h K).run=some r) :
 qU P G rd nm wd (.rangeFunc v ps bx bY) g (qB env) (qD h.l) (EQ P N [] env h K r):=by
 obtain⟨h1,wk1,kp1,ho1,e⟩:=qH8 (nm:=nm) ho he e;refine qU.pre' wk1 ?_;split at e
 case h_2=>cases e
 rename_i f caps hval;split at e
 case h_2=>cases e
 rename_i ent hent;split at e
 case h_2=>cases e
 rename_i z h2 hdc;split at e
 case h_2=>cases e
 rename_i b c os hbO hcB hos;split at e
 case h_2=>cases e
 rename_i ts hts;split at e
 case h_2=>cases e
 rename_i s0 hs0;obtain⟨hck,e⟩:=qG e;simp only[zOG] at hck;obtain⟨hn,hbx,hps,hv,hcx,hcy⟩:=hck;obtain⟨_,hh0,hm0,e⟩:=o6 e;obtain⟨q1,hF,e⟩:=run_bind e;obtain⟨eq,hq,hmq,eK⟩:=o6 e;have he0:=qHC hn hm0;have heq:=qHC hn hmq;subst he0;subst heq;obtain⟨kp2,ho2,hfr⟩:=qET ho1 hdc;have he2:okL h2 eq:=qI (kp1.trans kp2) he;have zH2:=qHB hos;obtain⟨zLI,hIt⟩:=hit f ent hent;intro Z H m zEZ D hs hbs;have hpv:=qM hs.vrl v;rw[qO,hval] at hpv;simp only[SV.enc,qB] at hpv;generalize hiv:zEZ.val v=iv at hpv
 cases hpv with
 | fn hf hc hfc hcc =>
 rename_i fs cs
 have hfs:fs=#[]:=by
  have:fs.size=0:=by simpa using hf.symm
  exact zRR this
 subst hfs;obtain⟨Z1,c1,r1⟩:=hfr Z H m cs.toList hs.hp ⟨by simpa using hc,fun i x v a b=>hcc i x v a (by simpa using b)⟩;have hs2:St P wd g (qB eq) (qD h2.l) Z1 H m zEZ D:=hs.step c1.hp (c1.vrl hs.vrl) c1.step
 have hw0:qB (dI sh.d (svL ts s0) (blank [] 0 eq)).2=qB (b++c):=by
  have hsd:sh.d=[]:=by
   unfold noSh at hn;simp only[zOG,zSK] at hn;exact hn.1
  rw[hsd];exact (aK hs0).symm
 obtain⟨ho0,_,zLJ⟩:=qOE ho2 ho2 hbO hcB hw0 hm0 zH2 (qN0 hos) hbx (fun k o _ _ hk=>zP hk);have zHQ:=Fz.drop hs2.hp (qB5 zLJ);refine s.s.zKA hv hcx hcy hiv zLI fun lp p1 p2 p3 p4 p5 p6=>?_
 have hHL:∀ b,b < H.size->(H.push (.loop lp)).get b=H.get b:=fun b hb=>jJ hb
 have hown0:∀ b,dH (own m (qD hh0.l)) b->dH (own m (qD h2.l)) b:=fun b ⟨k,ob,h1,h2⟩=>⟨k,ob,zHQ.zHD h1,h2⟩
 have hlo:¬ dH (own m (qD hh0.l)) H.size:=fun h=>zRP _ (aS zHQ.hp h).1
 have hlD:¬ D H.size:=fun h=>zRP _ (wd.lt hs2.wd _ h)
 have hlZ:¬ Z1 H.size:=fun h=>zRP _ (c1.hp.zlt _ h)
 have st0:St P wd g (qB eq) (qD hh0.l) Z1 H m zEZ D:=hs2.step zHQ.hp (zHQ.vrl hs2.vrl) zHQ.step
 have st1:St P wd g (qB eq) (qD hh0.l) Z1 (H.push (.loop lp)) m zEZ D:=by
  refine st0.other (fun _ h=>h) (fun b h=>zP4 (c1.hp.zlt b h)) (zR1 _) rfl (fun b hb _=>hHL b hb) fun b h=>?_
  rcases h with h | h
  ·exact (aS zHQ.hp h).2
  ·exact wd.nz hs2.wd b h
 have hWi:(rgW P wd eq h2 zEZ H m D lp (mkS P [] sh ts os eq h2)).W (gj g s0) Z1 (H.push (.loop lp)) fun b=>dH (own m (qD hh0.l)) b∨D b∨b=H.size :=
  ⟨eq,hh0,m,D,by rw[q12];exact hm0,by rw[q23];exact st1,fD,zPB _,hlo,hlD,hlZ,fun b=>Iff.rfl,zHQ.kr _,fun b h _=>hown0 b h,fun b h _=>h,rfl⟩
 have hcall:=hIt z (GS Γ (TyL ts)) _ _ _ hF (rgW P wd eq h2 zEZ H m D lp (mkS P [] sh ts os eq h2)) H.size (fun q w q' bb hstp=>by
  refine q2S (Γ:=Γ) (ent:=ent) hx hy ho2 he2 (hbh.trans (kp1.trans kp2)) hl hn zH2 (ks:=h2.l.map (·.1)++(os.map (·.1)++sh.b.map (·.1))) (fun k hk=>?_) p1 p2 p3 p5 p6 ?_ (by rw[p4];exact hstp)
  ·simp only[zPJ,not_or] at hk;refine⟨hk.2.1,hk.2.2,?_⟩
   cases hq:slk k h2.l with
   | none=>rfl
   | some o=>exact absurd (zO6.2 ⟨(k,o),qNL hq,rfl⟩) hk.1
  ·rw[p4];exact zOH hps) Z1 (H.push (.loop lp)) _ cs.toList (fun b h=>zP4 (c1.hp.zlt b h)) (zO7 hbs (zR1 _)) (c1.hp.gl.mono c1.hp.zlt (fun _ h=>h) fun b _ hb=>hHL b hb) hWi (r1.none (fun _ h=>h) (zR1 _) (fun b hz hb=>hHL b hb) fun _=>rfl)
 refine⟨_,hcall,?_⟩;rintro⟨rv,H'⟩ ⟨Z',D',b1,⟨e5,h5,m5,Dg,a1,a2,a3,a4,a5,a6,a7,a8,a9,a10,a11,a12⟩,sw⟩;rw[hmq] at a1;cases a1;refine q2Y a3 p1 p2 fun lp'=>?_
 obtain⟨n1,n2,n3,n4,n5,n6⟩:=uO ho2 he2 hmq;have zJG:Keep h hq:=(kp1.trans kp2).trans n1
 have stf:St P wd (Go.Sv.g1 q1) (qB eq) (qD hq.l) Z' (H'.put H.size (.loop lp')) m5 zEZ Dg:=by
  refine a2.other (fun _ h=>h) b1 (zOI _) rfl (fun b hb h=>xP fun e=>?_) (fun b h=>?_)
  ·subst e;rcases h with h | h | h
   ·exact a5 h
   ·exact a6 h
   ·exact a7 h
  ·rcases h with h | h
   ·exact (aS a2.hp h).2
   ·exact wd.nz a2.wd b h
 have hsz:H.size<=H'.size:=zO7 (zR1 _) sw.size;refine⟨Z',m5,qB eq,qD hq.l,Go.Sv.g1 q1,Dg,stf,⟨hsz,a12,fun b h=>sw.zle b (c1.zle b h),fun b h1 h2 h3=>?_,fun b h1 h2=>?_,fun b h1 h2=>?_,fun b h1 h2=>a11 b h1 h2⟩,((c1.kr _).trans a9).up (fun k h=>by cases h),eq,hq,rfl,rfl,n3,n2,hl,zJG,fun _=>⟨n3,n2,zJG,fun _ _=>rfl,rfl⟩,eK⟩
 ·have hb:b≠H.size:=Nat.ne_of_lt h1;refine (xP hb).trans ((sw.keep b (zP4 h1) (qDI b) ?_).trans (hHL b h1));rintro (q | q | q)
  ·obtain⟨k,ob,w1,w2⟩:=hown0 b q;exact h2 ⟨k,ob,c1.zHD w1,w2⟩
  ·exact h3 q
  ·exact hb q
 ·rcases sw.zFZ b h1 (zP4 h2) with q | q | q
  ·rcases c1.zFZ b q with q | q
   ·exact .inl q
   ·exact .inr (.inl q)
  ·exact absurd q (qDI b)
  ·rcases q with q | q | q
   ·obtain⟨k,ob,w1,w2⟩:=hown0 b q;exact .inr (.inl ⟨k,ob,c1.zHD w1,w2⟩)
   ·exact .inr (.inr q)
   ·exact absurd q (Nat.ne_of_lt h2)
 ·obtain⟨k,ob,w1,w2⟩:=a10 b h1 h2;exact⟨k,ob,c1.zHD w1,w2⟩
end
end Go.Sv
namespace Go.Sv
open Go.Idl
noncomputable section
variable [Gc]
variable [Frs]
variable [Yl]
variable {P:Program}{Γ:Option Type}{R:Type}{r:R}{nm:Nm}{G:Nat->Bool}{N:Nat}{rs:List Ty}{tab:uT}{nat:xC}{good:FuncId->Bool}{wd:Wld (GV Γ)}
def zBZ (an:An)(id:Nat):List (Nat×TypeId):=match lkA id an.fz with
 | some l=>l
 | none=>[]
def wr (an:An):Code->List Nat
 | .region id ops _=>(zBZ an id).map (·.1)++(ops.toList.filterMap (·.dst)++(zBZ an (id+1000000)).map (·.1))
 | .seq a b=>wr an a++wr an b
 | .cond _ a b=>wr an a++wr an b
 | .block id x=>match lkA id an.lp with
   | some sh=>lpW (wr an x) sh
   | none=>wr an x
 | .loop x=>wr an x
 | .scope x=>wr an x
 | _=>[]
def nx2:List Oper->Option (Operand×Nat×Nat)
 | [⟨some d1,.next x false,_,_,_,none⟩,⟨some d2,.extract (.tmp e1) 0,_,_,_,none⟩]=>cond (Nat.beq d1 e1) (some (x,d1,d2)) none
 | _=>none
def q9B (id:Nat)(body:∀ {R':Type},GV Γ->List SV->SH->vM Γ R'->zEY R')(K:vM Γ R):Nat->GV Γ->List SV->SH->zEY R
 | 0,_,_,_=>.fail
 | n+1,g,env,h=>body g env h fun e g env h=>match e with
   | .normal=>q9B id body K n g env h
   | .exit i=>cond (Nat.beq i id) (K .normal g env h) (K (.exit i) g env h)
   | .ret=>K .ret g env h
   | .goto _=>.fail
def shN (nm:Nm)(k:Nat):Nm:=⟨nm.b+k,nm.p⟩
def qWD (id s:Nat)(body:∀ {R':Type},Nm->GV Γ->List SV->SH->vM Γ R'->zEY R')(K:vM Γ R):Nat->Nm->GV Γ->List SV->SH->zEY R
 | 0,_,_,_,_=>.fail
 | n+1,nm,g,env,h=>body nm g env h fun e g env h=>match e with
   | .normal=>qWD id s body K n (shN nm s) g env h
   | .exit i=>cond (Nat.beq i id) (K .normal g env h) (K (.exit i) g env h)
   | .ret=>K .ret g env h
   | .goto _=>.fail
def zEX:List (Nat×TypeId)->Nat
 | (s,_)::_=>s
 | []=>0
def zEI (y:GV Γ->List SV->SH->vM Γ R->zEY R)(K:vM Γ R):vM Γ R:=fun e g env h=>match e with
 | .normal=>y g env h K
 | e=>K e g env h
def zEN (K:vM Γ R):vM Γ R:=fun e g env h=>match e with
 | .goto _=>.fail
 | e=>K e g env h
def frC:Code->Option Nat
 | .region id _ _=>some id
 | .seq a _=>frC a
 | .scope x=>frC x
 | .block _ x=>frC x
 | .loop x=>frC x
 | _=>none
def jnR (an:An):Code->Option zHM
 | .region id _ _=>lkA (id+2000000) an.jn
 | _=>none
def jnE (an:An)(a b:Code):Option zHM:=match jnR an a with
 | some j=>some j
 | none=>(match frC b with
   | some id=>lkA id an.jn
   | none=>none)
def zDD:Operand->Nat
 | .tmp t=>t
 | _=>0
section
variable (P:Program)(G:Nat->Bool)(T:yE)(IT:List (FuncId×zFI))(CI:CIT)(Y:YI (GV Γ))(an:An)(rdv:List SV->SH->Option (TyL rs))(en:TyL rs->List SV)(hb:SH)
def ev:Code->{R:Type}->Bool->Nm->GV Γ->List SV->SH->vM Γ R->zEY R
 | .skip,_,_,_,g,env,h,K=>K .normal g env h
 | .label _,_,_,_,g,env,h,K=>K .normal g env h
 | .ret,_,_,_,g,env,h,K=>K .ret g env h
 | .exit id,_,_,_,g,env,h,K=>K (.exit id) g env h
 | .seq a b,_,rd,nm,g,env,h,K=>(match jnE an a b with
   | some j=>zAO P (wr an a) j (fun {_}=>ev a rd nm) g env h fun g env h=>ev b rd nm g env h K
   | none=>ev a rd nm g env h (zEI (ev b rd nm) K))
 | .cond v a b,_,rd,nm,g,env,h,K=>cond (kV G v) (match asB (kG env v) with
   | some t=>.ite t (ev a rd nm g env h K) (ev b rd nm g env h K)
   | none=>(match kG env v with
     | .bq=>.both (ev a rd nm g env h K) (ev b rd nm g env h K)
     | _=>.fail)) .fail
 | .region id ops d,_,rd,nm,g,env,h,K=>fzv P nm (zBZ an id) env h fun env h=>zDB P G T CI Y nm ops d g env h fun g env h=>fzv P nm (zBZ an (id+1000000)) env h fun env h=>K .normal g env h
 | .block id (.loop y),_,rd,nm,g,env,h,K=>(match lkA id an.lp with
   | some sh=>(match lkA id an.ab with
     | none=>zAH P nm (wr an y) (lpW (wr an y) sh) rdv en hb sh id (fun {_}=>ev y rd nm) g env h K
     | some _=>.fail)
   | none=>(match lkA (id+3000000) an.fz with
     | some l=>qWD id (zEX l) (fun {_} nm=>ev y rd nm) K 24 nm g env h
     | none=>q9B id (fun {_}=>ev y rd nm) K 24 g env h))
 | .block id x,_,rd,nm,g,env,h,K=>(match lkA id an.lp with
   | some _=>.fail
   | none=>ev x rd nm g env h (zD0 id K))
 | .scope x,_,rd,nm,g,env,h,K=>ev x rd nm g env h (zEN K)
 | .rangeFunc v ps x y,_,rd,nm,g,env,h,K=>(match lkA (zDD v) an.rg with
   | some sh=>q2Z P G IT nm sh v ps x y (fun {_}=>ev x true) (fun {_}=>ev y true) g env h K
   | none=>.fail)
 | _,_,_,_,_,_,_,_=>.fail
end
theorem EQ.go {w w2:List Nat}{env zE4:List SV}{h h1:SH}{K:vM Γ R}{e:zF1}{g:GV Γ}{pe:List PV}{ph:PHp}(a:xL P w env h zE4 h1)(b:EQ P N w2 zE4 h1 K r e g pe ph):EQ P N (w++w2) env h K r e g pe ph:=by
 obtain⟨env',h',b1,b2,b3,b4,b5,b0,b6,b7⟩:=b;exact⟨env',h',b1,b2,b3,b4,b5,a.2.2.1.trans b0,fun hne=>a.trans (b6 hne),b7⟩
theorem EQ.up {w w2:List Nat}{env:List SV}{h:SH}{K:vM Γ R}{e:zF1}{g:GV Γ}{pe:List PV}{ph:PHp}(hw:∀ i∈w,i∈w2)(b:EQ P N w env h K r e g pe ph):EQ P N w2 env h K r e g pe ph:=by
 obtain⟨env',h',b1,b2,b3,b4,b5,b0,b6,b7⟩:=b;exact⟨env',h',b1,b2,b3,b4,b5,b0,fun hne=>(b6 hne).up hw,b7⟩
theorem EQ.now {w:List Nat}{env:List SV}{h:SH}{K:vM Γ R}{e:zF1}{g:GV Γ}(ho:OkH P h)(he:okL h env)(hl:env.length=N)(hk:(K e g env h).run=some r):EQ P N w env h K r e g (qB env) (qD h.l) :=
 ⟨env,h,rfl,rfl,he,ho,hl,.refl _,fun _=>(xL.refl ho he).up fun i hi=>by (cases hi),hk⟩
theorem zCY {id:Nat}{w:List Nat}{env:List SV}{h:SH}{K:vM Γ R}{e:zF1}{g:GV Γ}{pe:List PV}{ph:PHp}(b:EQ P N w env h (zD0 id K) r e g pe ph):BQY id (EQ P N w env h K r) e g pe ph:=by
 obtain⟨env',h',b1,b2,b3,b4,b5,b0,b6,b7⟩:=b
 cases e with
 | normal=>exact BQY.go ⟨env',h',b1,b2,b3,b4,b5,b0,b6,b7⟩
 | ret=>exact BQY.rt ⟨env',h',b1,b2,b3,b4,b5,b0,b6,b7⟩
 | goto l=>exact⟨env',h',b1,b2,b3,b4,b5,b0,b6,b7⟩
 | exit i =>
   have b8:(cond (Nat.beq i id) (K .normal g env' h') (K (.exit i) g env' h')).run=some r:=b7
   cases hi:Nat.beq i id with
   | true =>
     rw[hi] at b8;have:=zOH hi;subst this;exact BQY.on ⟨env',h',b1,b2,b3,b4,b5,b0,fun _=>b6 fun h=>by (cases h),b8⟩
   | false =>
     rw[hi] at b8;exact BQY.ex (fun h=>by rw[h,aC] at hi;cases hi) ⟨env',h',b1,b2,b3,b4,b5,b0,b6,b8⟩
omit [Yl] in
theorem q06 {ops:List Oper}{i:Nat}(h:i ∉ ops.filterMap (·.dst)):some i ∉ ops.map (·.dst):=fun hm=>by
 obtain⟨o,h1,h2⟩:=zO6.1 hm;exact h (zQY.2 ⟨o,h1,h2⟩)
def q8F (P:Program)(G:Nat->Bool)(T:yE)(IT:List (FuncId×zFI))(CI:CIT)(Y:YI (GV Γ))(an:An)(rdv:List SV->SH->Option (TyL rs))(en:TyL rs->List SV)(hb:SH)(N:Nat)(wd:Wld (GV Γ))(rd:Bool)(nm:Nm)(c:Code):Prop :=
 ∀ {R:Type} {g:GV Γ} {env:List SV} {h:SH} {K:vM Γ R} {r:R},OkH P h->okL h env->env.length=N->Keep hb h->(ev P G T IT CI Y an rdv en hb c rd nm g env h K).run=some r->qU P G rd nm wd c g (qB env) (qD h.l) (EQ P N (wr an c) env h K r)
theorem q5Y {w:List Nat}{id:Nat}{y:Code}{hb:SH}{body:∀ {R':Type},GV Γ->List SV->SH->vM Γ R'->zEY R'}{rd:Bool}
 (hbody:∀ {R':Type} {g:GV Γ} {env:List SV} {h:SH} {K:vM Γ R'} {r:R'},OkH P h->okL h env->env.length=N->Keep hb h->(body g env h K).run=some r->qU P G rd nm wd y g (qB env) (qD h.l) (EQ P N w env h K r))
 {g:GV Γ} {env:List SV} {h:SH} {K:vM Γ R} {n:Nat} (ho:OkH P h) (he:okL h env) (hl:env.length=N) (hbh:Keep hb h) (e:(q9B id (fun {_}=>body) K n g env h).run=some r) :
 qU P G rd nm wd (.block id (.loop y)) g (qB env) (qD h.l) (EQ P N w env h K r):=by
 refine qU.zJT (fun n g1 pe ph=>∃ zE4 h1,pe=qB zE4∧ph=qD h1.l∧okL h1 zE4∧OkH P h1∧zE4.length=N∧Keep h h1∧xL P w env h zE4 h1∧(q9B id (fun {_}=>body) K n g1 zE4 h1).run=some r) ?_ (n:=n) ⟨env,h,rfl,rfl,he,ho,hl,.refl _,(xL.refl ho he).up fun i hi=>by (cases hi),e⟩;rintro n1 g1 pe ph ⟨zE4,h1,rfl,rfl,b3,b4,b5,b6,b7,b8⟩
 cases n1 with
 | zero=>cases b8
 | succ n1 =>
   unfold q9B at b8;refine (hbody b4 b3 b5 (hbh.trans b6) b8).mono ?_;rintro x g2 pe ph ⟨env',h',rfl,rfl,c3,c4,c5,c0,c6,c7⟩
   have up:x≠.ret->xL P w env h env' h':=fun hne=>(b7.trans (c6 hne)).up fun i hi=>by
    rcases zPJ.1 hi with q | q <;> exact q
   cases x with
   | normal=>exact⟨n1,zPB _,env',h',rfl,rfl,c3,c4,c5,b6.trans c0,up fun h=>by (cases h),c7⟩
   | ret=>exact BQY.rt ⟨env',h',rfl,rfl,c3,c4,c5,b6.trans c0,fun hne=>absurd rfl hne,c7⟩
   | goto l=>cases c7
   | exit i =>
     have c8:(cond (Nat.beq i id) (K .normal g2 env' h') (K (.exit i) g2 env' h')).run=some r:=c7
     cases hi:Nat.beq i id with
     | true =>
       rw[hi] at c8;have:=zOH hi;subst this;exact BQY.on ⟨env',h',rfl,rfl,c3,c4,c5,b6.trans c0,fun _=>up fun h=>by (cases h),c8⟩
     | false =>
       rw[hi] at c8;exact BQY.ex (fun h=>by rw[h,aC] at hi;cases hi) ⟨env',h',rfl,rfl,c3,c4,c5,b6.trans c0,fun _=>up fun h=>by (cases h),c8⟩
theorem q61 {nm':Nm}{wd:Wld (GV Γ)}{rd:Bool}{c:Code}{g:GV Γ}{env:List PV}{ph:PHp}{Q:YQ (GV Γ)}(h:qU P G rd nm' wd c g env ph Q)(e:nm'.p=nm.p):qU P G rd nm wd c g env ph Q:=by
 have e2:inP nm'=inP nm:=e;unfold qU at h ⊢;rw[e2] at h;exact h
theorem q1P {sf:Nat}{w:List Nat}{id:Nat}{y:Code}{hb:SH}{body:∀ {R':Type},Nm->GV Γ->List SV->SH->vM Γ R'->zEY R'}{rd:Bool}
 (hbody:∀ {R':Type} {nm':Nm} {g:GV Γ} {env:List SV} {h:SH} {K:vM Γ R'} {r:R'},OkH P h->okL h env->env.length=N->Keep hb h->(body nm' g env h K).run=some r->qU P G rd nm' wd y g (qB env) (qD h.l) (EQ P N w env h K r))
 {g:GV Γ} {env:List SV} {h:SH} {K:vM Γ R} {n:Nat} {nm1:Nm} (hnm:nm1.p=nm.p) (ho:OkH P h) (he:okL h env) (hl:env.length=N) (hbh:Keep hb h) (e:(qWD id sf (fun {_}=>body) K n nm1 g env h).run=some r) :
 qU P G rd nm wd (.block id (.loop y)) g (qB env) (qD h.l) (EQ P N w env h K r):=by
 refine qU.zJT (fun n g1 pe ph=>∃ zE4 h1,pe=qB zE4∧ph=qD h1.l∧okL h1 zE4∧OkH P h1∧zE4.length=N∧Keep h h1∧xL P w env h zE4 h1∧∃ nm2:Nm,nm2.p=nm.p∧(qWD id sf (fun {_}=>body) K n nm2 g1 zE4 h1).run=some r) ?_ (n:=n) ⟨env,h,rfl,rfl,he,ho,hl,.refl _,(xL.refl ho he).up fun i hi=>by (cases hi),nm1,hnm,e⟩;rintro n1 g1 pe ph ⟨zE4,h1,rfl,rfl,b3,b4,b5,b6,b7,nm2,bp,b8⟩
 cases n1 with
 | zero=>cases b8
 | succ n1 =>
   unfold qWD at b8;refine qU.mono (q61 (hbody b4 b3 b5 (hbh.trans b6) b8) bp) ?_;rintro x g2 pe ph ⟨env',h',rfl,rfl,c3,c4,c5,c0,c6,c7⟩
   have up:x≠.ret->xL P w env h env' h':=fun hne=>(b7.trans (c6 hne)).up fun i hi=>by
    rcases zPJ.1 hi with q | q <;> exact q
   cases x with
   | normal=>exact⟨n1,zPB _,env',h',rfl,rfl,c3,c4,c5,b6.trans c0,up fun h=>by (cases h),shN nm2 sf,bp,c7⟩
   | ret=>exact BQY.rt ⟨env',h',rfl,rfl,c3,c4,c5,b6.trans c0,fun hne=>absurd rfl hne,c7⟩
   | goto l=>cases c7
   | exit i =>
     have c8:(cond (Nat.beq i id) (K .normal g2 env' h') (K (.exit i) g2 env' h')).run=some r:=c7
     cases hi:Nat.beq i id with
     | true =>
       rw[hi] at c8;have:=zOH hi;subst this;exact BQY.on ⟨env',h',rfl,rfl,c3,c4,c5,b6.trans c0,fun _=>up fun h=>by (cases h),c8⟩
     | false =>
       rw[hi] at c8;exact BQY.ex (fun h=>by rw[h,aC] at hi;cases hi) ⟨env',h',rfl,rfl,c3,c4,c5,b6.trans c0,fun _=>up fun h=>by (cases h),c8⟩
theorem qYG {T:yE}{IT:List (FuncId×zFI)}{CI:CIT}{Y:YI (GV Γ)}{an:An}{rdv:List SV->SH->Option (TyL rs)}{en:TyL rs->List SV}{hb:SH}{rd:Bool}{id:Nat}{y:Code}(s:zFT P good nat G tab)(hrd:zH1 P nm N hb rdv en)
 (hY:q8F P G T IT CI Y an rdv en hb N wd rd nm y) (hYn:∀ nm',q8F P G T IT CI Y an rdv en hb N wd rd nm' y) (hZ:∀ rid ops t j z,y=.seq (.region rid ops false) (.seq (.cond (.tmp t) .skip (.exit j)) z)->q8F P G T IT CI Y an rdv en hb N wd rd nm z)
 {g:GV Γ} {env:List SV} {h:SH} {K:vM Γ R} (ho:OkH P h) (he:okL h env) (hl:env.length=N) (hbh:Keep hb h) (e:(ev P G T IT CI Y an rdv en hb (.block id (.loop y)) rd nm g env h K).run=some r) :
 qU P G rd nm wd (.block id (.loop y)) g (qB env) (qD h.l) (EQ P N (wr an (.block id (.loop y))) env h K r):=by
 have e1:=e;unfold ev at e1;split at e1
 ·rename_i sh hsh;have hw:wr an (.block id (.loop y))=lpW (wr an y) sh:=by simp only[wr,hsh]
  rw[hw];split at e1
  ·exact qZ2 hrd rfl hY ho he hl hbh e1
  ·cases e1
 ·rename_i hn;have hw:wr an (.block id (.loop y))=wr an y:=by simp only[wr,hn]
  rw[hw];split at e1
  ·exact q1P (nm1:=nm) (fun ho he hl hbh e=>hYn _ ho he hl hbh e) rfl ho he hl hbh e1
  ·exact q5Y hY ho he hl hbh e1
theorem jF [zFJ P G]{T:yE}{IT:List (FuncId×zFI)}{CI:CIT}{Y:YI (GV Γ)}{an:An}{rdv:List SV->SH->Option (TyL rs)}{en:TyL rs->List SV}{hb:SH}(s:zFT P good nat G tab)(ht:qP0 tab T)(hit:q3T P G IT)(hci:qU8 P G CI)(hy:YOk P G wd Y)(hrd:∀ nm,zH1 P nm N hb rdv en) :
 ∀ (c:Code),(∀ rd nm,q8F P G T IT CI Y an rdv en hb N wd rd nm c)∧∀ a b,c=.seq a b->(∀ rd nm,q8F P G T IT CI Y an rdv en hb N wd rd nm b)∧∀ a' b',b=.seq a' b'->∀ rd nm,q8F P G T IT CI Y an rdv en hb N wd rd nm b'
 | .skip=>⟨fun rd nm {_ g env h K r} ho he hl hbh e=>.skip (.now ho he hl e),fun a b h=>by cases h⟩
 | .label _=>⟨fun rd nm {_ g env h K r} ho he hl hbh e=>.label (.now ho he hl e),fun a b h=>by cases h⟩
 | .ret=>⟨fun rd nm {_ g env h K r} ho he hl hbh e=>.ret (.now ho he hl e),fun a b h=>by cases h⟩
 | .exit id=>⟨fun rd nm {_ g env h K r} ho he hl hbh e=>.exit (.now ho he hl e),fun a b h=>by cases h⟩
 | .seq a b=>by
   refine⟨fun rd nm {_ g env h K r} ho he hl hbh e=>?_,fun a' b' hh=>by
    cases hh
    exact⟨(jF s ht hit hci hy hrd b).1,fun a2 b2 h2=>((jF s ht hit hci hy hrd b).2 a2 b2 h2).1⟩⟩
   unfold ev at e;split at e
   ·refine .seq ((q0H (fun e1=>(jF s ht hit hci hy hrd a).1 _ _ ho he hl hbh e1) ho he hl e).mono fun x g' pe ph hq=>?_);obtain⟨rfl,zFH,h2,rfl,rfl,b1,b2,b3,b4,b5⟩:=hq;show qU P G rd nm wd b g' _ _ _;exact ((jF s ht hit hci hy hrd b).1 _ _ b1 b2 b3 (hbh.trans b4.2.2.1) b5).mono fun x g' pe ph hq=>EQ.go b4 hq
   refine .seq (((jF s ht hit hci hy hrd a).1 _ _ ho he hl hbh e).mono fun x g' pe ph hq=>?_);obtain⟨env',h',b1,b2,b3,b4,b5,b0,b6,b7⟩:=hq
   cases x with
   | normal =>
     have b7:(ev P G T IT CI Y an rdv en hb b rd nm g' env' h' K).run=some r:=b7;subst b1 b2;show qU P G rd nm wd b g' _ _ _;refine ((jF s ht hit hci hy hrd b).1 _ _ b4 b3 b5 (hbh.trans b0) b7).mono fun x g' pe ph hq=>?_
     exact EQ.go (b6 fun h=>by (cases h)) hq
   | exit i=>exact⟨env',h',b1,b2,b3,b4,b5,b0,fun hne=>(b6 hne).up fun i hi=>zPV _ hi,b7⟩
   | ret=>exact⟨env',h',b1,b2,b3,b4,b5,b0,fun hne=>absurd rfl hne,b7⟩
   | goto l=>exact⟨env',h',b1,b2,b3,b4,b5,b0,fun hne=>(b6 hne).up fun i hi=>zPV _ hi,b7⟩
 | .cond v a b=>by
   refine⟨fun rd nm {_ g env h K r} ho he hl hbh e=>?_,fun a b h=>by cases h⟩;obtain⟨c1,e1⟩:=qG e;split at e1
   ·rename_i t hv;have hpv:qK (qB env) v=fvv (.bool t):=by rw[qO];exact rR hv
    rcases run_ite e1 with ⟨z,e2⟩ | ⟨z,e2⟩
    ·exact .cond c1 hpv (fun _=>((jF s ht hit hci hy hrd a).1 _ _ ho he hl hbh e2).mono fun x g pe ph hq=>hq.up fun i hi=>zPV _ hi) (fun hf=>by rw[z] at hf;cases hf)
    ·exact .cond c1 hpv (fun hf=>by rw[z] at hf;cases hf) (fun _=>((jF s ht hit hci hy hrd b).1 _ _ ho he hl hbh e2).mono fun x g pe ph hq=>hq.up fun i hi=>zQH _ hi)
   ·split at e1
    case h_2=>cases e1
    rename_i hv;have hpv:qK (qB env) v=.bq:=by rw[qO,hv];simp[SV.enc]
    obtain⟨e2,e3⟩:=q1W e1;exact .zLA c1 hpv (((jF s ht hit hci hy hrd a).1 _ _ ho he hl hbh e2).mono fun x g pe ph hq=>hq.up fun i hi=>zPV _ hi) (((jF s ht hit hci hy hrd b).1 _ _ ho he hl hbh e3).mono fun x g pe ph hq=>hq.up fun i hi=>zQH _ hi)
 | .region id ops d=>by
   refine⟨fun rd nm {_ g env h K r} ho he hl hbh e=>?_,fun a b h=>by cases h⟩;obtain⟨zE4,h1,w1,q1,e1⟩:=qP6 (nm:=nm) ho he e;refine qU.pre' w1 (qU.post ((q56 s ht hci hy q1.2.1 q1.1 e1).mono ?_));rintro x g' pe ph ⟨rfl,env',h',rfl,rfl,b3,b4⟩;obtain⟨zFH,h2,w2,q2,e2⟩:=qP6 (nm:=nm) b3.2.1 b3.1 b4
   have b5:xL P (ops.toList.filterMap (·.dst)) zE4 h1 env' h':=⟨b3.1,b3.2.1,b3.2.2.1,fun i hi=>b3.2.2.2.1 i (q06 hi),b3.2.2.2.2⟩
   have b6:=b5.trans q2;exact⟨qB zFH,qD h2.l,w2,EQ.go q1 ⟨zFH,h2,rfl,rfl,q2.1,q2.2.1,by rw[b6.2.2.2.2,q1.2.2.2.2,hl],b6.2.2.1,fun _=>b6,e2⟩⟩
 | .block id x=>by
   refine⟨fun rd nm {_ g env h K r} ho he hl hbh e=>?_,fun a b h=>by cases h⟩
   cases x with
   | loop y =>
     exact qYG s (hrd nm) ((jF s ht hit hci hy hrd y).1 _ _) (fun nm'=>(jF s ht hit hci hy hrd y).1 _ nm') (fun rid ops t j z hz=>((jF s ht hit hci hy hrd y).2 _ _ hz).2 _ _ rfl _ _) ho he hl hbh e
   | _ =>
     all_goals
      have e1:=e;unfold ev at e1;split at e1
      ·cases e1
      ·rename_i hn;simp only[wr,hn];exact .block (((jF s ht hit hci hy hrd _).1 _ _ ho he hl hbh e1).mono fun x g pe ph hq=>zCY hq)
 | .loop _=>⟨fun rd nm {_ _ _ _ _ _} _ _ _ _ e=>(by cases e),fun a b h=>by cases h⟩
 | .rangeFunc v ps x y=>by
   refine⟨fun rd nm {_ g env h K r} ho he hl hbh e=>?_,fun a b h=>by cases h⟩;unfold ev at e;split at e
   ·rename_i sh hsh;exact qYO s hit (fun ho he hl hbh e=>(jF s ht hit hci hy hrd x).1 _ _ ho he hl hbh e) (fun ho he hl hbh e=>(jF s ht hit hci hy hrd y).1 _ _ ho he hl hbh e) ho he hl hbh e
   ·cases e
 | .scope x=>by
   refine⟨fun rd nm {_ g env h K r} ho he hl hbh e=>?_,fun a b h=>by cases h⟩;refine .scope (((jF s ht hit hci hy hrd x).1 _ _ ho he hl hbh e).mono fun ex g' pe ph hq=>?_);obtain⟨env',h',b1,b2,b3,b4,b5,b0,b6,b7⟩:=hq
   cases ex with
   | goto l=>cases b7
   | normal=>exact⟨fun _ h=>by (cases h),env',h',b1,b2,b3,b4,b5,b0,b6,b7⟩
   | ret=>exact⟨fun _ h=>by (cases h),env',h',b1,b2,b3,b4,b5,b0,b6,b7⟩
   | exit i=>exact⟨fun _ h=>by (cases h),env',h',b1,b2,b3,b4,b5,b0,b6,b7⟩
 | .goto _=>⟨fun rd nm {_ _ _ _ _ _} _ _ _ _ e=>(by cases e),fun a b h=>by cases h⟩
 | .refuse _=>⟨fun rd nm {_ _ _ _ _ _} _ _ _ _ e=>(by cases e),fun a b h=>by cases h⟩
theorem q1F [zFJ P G]{T:yE}{IT:List (FuncId×zFI)}{CI:CIT}{Y:YI (GV Γ)}{an:An}{rdv:List SV->SH->Option (TyL rs)}{en:TyL rs->List SV}{hb:SH}(s:zFT P good nat G tab)(ht:qP0 tab T)(hit:q3T P G IT)(hci:qU8 P G CI)(hy:YOk P G wd Y)(hrd:∀ nm,zH1 P nm N hb rdv en) :
 ∀ (c:Code) {R:Type} {rd:Bool} {nm:Nm} {g:GV Γ} {env:List SV} {h:SH} {K:vM Γ R} {r:R},OkH P h->okL h env->env.length=N->Keep hb h->(ev P G T IT CI Y an rdv en hb c rd nm g env h K).run=some r->qU P G rd nm wd c g (qB env) (qD h.l) (EQ P N (wr an c) env h K r) :=
 fun c {R rd nm g env h K r} ho he hl hbh e=>(jF s ht hit hci hy hrd c).1 rd nm ho he hl hbh e
end
end Go.Sv
namespace Go.Sv
open Go.Idl
noncomputable section
variable [Gc]
variable [Frs]
variable [Yl]
variable {P:Program}{R:Type}{r:R}{nm:Nm}{G:Nat->Bool}{N:Nat}{tab:uT}{good:FuncId->Bool}
def uK (P:Program)(ty:TypeId)(t:Ty):Bool:=match qOX P ty with
 | some true=>!t.one&&(match szT P ty with
   | some n=>Nat.beq n t.w
   | none=>false)
 | some false=>t.one
 | none=>false
omit [Yl] in
theorem qRC {ty:TypeId}{t:Ty}{x:t.sem}{ph:PHp}(e:uK P ty t=true):fA P ty (q00 t x) ph=some (t.pv x):=by
 unfold uK at e;show qMJ P ty (t.cells x) 0=_;unfold qMJ Ty.pv;split at e
 ·rename_i h1;rw[h1];simp only;split at e
  ·rename_i n hn;rw[hn];rw[zOG] at e;have h2:n=t.w:=zOH e.2;have h3:t.one=false:=by simpa using e.1
   subst h2;have h4:Nat.ble (0+t.w) (t.cells x).length=true:=zOV (by rw[t.zE8];omega);simp only[h4,cond_true,h3,cond_false,zP1];rw[zO5 (by rw[t.zE8];exact zOI _)]
  ·rw[zOG] at e;cases e.2
 ·rename_i h1;rw[h1];simp only[e,cond_true];rw[Ty.cells_one e];rfl
 ·cases e
def qYV:ResultVar->Nat
 | .tmp t=>t
 | .cell a _=>a
def qS0:ResultVar->Option TypeId
 | .tmp _=>none
 | .cell _ ty=>some ty
def q88 (ty:TypeId)(v:SV)(h:SH):Bool:=match v with
 | .ref k _ _=>(match slk k h.l with
   | some (.cells el _ _)=>Nat.beq el ty
   | _=>false)
 | _=>false
theorem qXU {ty:TypeId}{t:Ty}{v:SV}{h:SH}{x:t.sem}{h':SH}(ho:OkH P h)(e:qAW P t v h=some (x,h'))(hel:q88 ty v h=true)(h1:t.one=false):rt1 P ty (t.pv x)=t.pv x:=by
 unfold qAW at e;unfold q88 at hel;split at e
 case h_2=>cases e
 rename_i k off w;split at e
 case h_2=>cases e
 rename_i el w0 l hk;simp only[hk] at hel;have hel:el=ty:=zOH hel;subst hel
 cases hc:(!spec P el&&(Nat.beq off 0&&Nat.beq w l.length)) with
 | false=>rw[hc] at e;cases e
 | true =>
   rw[hc] at e;simp only[cond_true] at e;split at e
   case h_2=>cases e
   rename_i y zFF h2 hd;cases e;have hd0:=gU (k:=k) ho;obtain⟨a1,a2,a3,ys,a4,a5⟩:=qBL hd0.2 (qI hd0.1 (ho.cells _ _ _ _ hk)) hd;unfold Ty.pv;rw[h1];show PV.agg (rtL (rtC P) (vT P 8 el) ((t.cells x).map .f))=_;have:=(a5 []).2;rw[zQB] at this;rw[this];cases zFF <;> simp[rtL]
def olL:List TypeId->Ty->Option (List TypeId)
 | tys,.pair a b=>(match olL tys a with
   | some r=>olL r b
   | none=>none)
 | ty::tys,.ol _ _=>cond (Gc.ol ty) (some tys) none
 | [],.ol _ _=>none
 | tys,t=>cond t.nol (some (tys.drop t.w)) none
def zB6 (t:Ty)(v:SV):Option t.sem:=match v with
 | .lp t' [x] 0 0=>if e:t'=t then some (e ▸ x) else none
 | _=>none
omit [Yl] in
theorem q1E {t:Ty}{v:SV}{x:t.sem}(e:zB6 t v=some x):v=.lp t [x] 0 0:=by
 unfold zB6 at e;split at e
 ·rename_i t' y;split at e
  ·rename_i h;subst h;cases e;rfl
  ·cases e
 ·cases e
def q1G (P:Program)(c:Option TypeId)(ty:TypeId)(t:Ty)(v:SV)(h:SH):Option (t.sem×SH):=match c with
 | none=>q4S P ty t v h
 | some ty2=>match zB6 t v with
   | some x=>cond (uK P ty2 t&&(t.nol||(!t.one&&(olL (vT P 8 ty) t).isSome))) (some (x,h)) none
   | none=>cond (uK P ty2 t&&(t.nol||(!t.one&&q88 ty v h))) (qAW P t v h) none
def qHV (c:Option TypeId)(t:Ty)(x:t.sem):SV:=match c with
 | none=>t.sv x
 | some _=>.lp t [x] 0 0
def qJ1 (P:Program):List (Option TypeId)->List TypeId->(ts:List Ty)->List SV->SH->Option (TyL ts×SH)
 | [],_,[],[],h=>some ((),h)
 | c::cs,ty::_,[t],v::vs,h=>(match cs,vs with
   | [],[]=>q1G P c ty t v h
   | _,_=>none)
 | c::cs,ty::tys,t::u::ts,v::vs,h=>match q1G P c ty t v h with
   | some (x,h1)=>(match qJ1 P cs tys (u::ts) vs h1 with
     | some (y,h2)=>some ((x,y),h2)
     | none=>none)
   | none=>none
 | _,_,_,_,_=>none
def svM:List (Option TypeId)->(ts:List Ty)->TyL ts->List SV
 | _,[],_=>[]
 | c::_,[t],x=>[qHV c t x]
 | [],[t],x=>[t.sv x]
 | c::cs,t::u::ts,x=>qHV c t x.1::svM cs (u::ts) x.2
 | [],t::u::ts,x=>t.sv x.1::svM [] (u::ts) x.2
omit [Yl] in
theorem qVE {h:SH}(c:Option TypeId)(t:Ty)(x:t.sem):(qHV c t x).ok h:=by
 cases c with
 | none=>exact qIL t x
 | some _=>simp[qHV,SV.ok]
omit [Yl] in
theorem qVG {h:SH}:∀ (cs:List (Option TypeId)) (ts:List Ty) (x:TyL ts),okL h (svM cs ts x)
 | _,[],_=>by simp[svM,okL]
 | c::_,[t],x=>by simp only[svM,okL];exact⟨qVE c t x,trivial⟩
 | [],[t],x=>by simp only[svM,okL];exact⟨qIL t x,trivial⟩
 | c::cs,t::u::ts,x=>by
   show okL h (qHV c t x.1::svM cs (u::ts) x.2);simp only[okL];exact⟨qVE c t x.1,qVG cs (u::ts) x.2⟩
 | [],t::u::ts,x=>by
   show okL h (t.sv x.1::svM [] (u::ts) x.2);simp only[okL];exact⟨qIL t x.1,qVG [] (u::ts) x.2⟩
omit [Yl] in
theorem qLT:∀ (cs:List (Option TypeId)) (ts:List Ty) (x:TyL ts),(svM cs ts x).length=ts.length
 | _,[],_=>by simp[svM]
 | c::_,[t],x=>rfl
 | [],[t],x=>rfl
 | c::cs,t::u::ts,x=>by
   show (qHV c t x.1::svM cs (u::ts) x.2).length=_;simp only[zO4,qLT cs (u::ts)]
 | [],t::u::ts,x=>by
   show (t.sv x.1::svM [] (u::ts) x.2).length=_;simp only[zO4,qLT [] (u::ts)]
theorem qPN (c:Option TypeId)(t:Ty)(x:t.sem)(Z:Nat->Prop)(H:IH)(M M':Nat->Option (Nat×PO))(v:Value)(h:VR P Z H M (qHV c t x).enc v):VR P Z H M' (qHV c t x).enc v:=by
 cases c with
 | none =>
   simp only[qHV,o8] at h ⊢;exact bQ h (qYD t x)
 | some _ =>
   simp only[qHV,SV.enc] at h ⊢
   cases h with
   | lp a b c d=>exact .lp a b c d
omit [Yl] in
theorem qAI {ty:TypeId}:∀ (t:Ty) (x:t.sem) (c:FV),t.nol=true->c∈t.cells x->rt0 P ty (.f c)=.f c
 | .int _,x,c,_,h=>by simp only[Ty.cells,zPK] at h;subst h;rfl
 | .bool,x,c,_,h=>by simp only[Ty.cells,zPK] at h;subst h;rfl
 | .str,x,c,_,h=>by simp only[Ty.cells,zPK] at h;subst h;rfl
 | .raw,x,c,_,h=>by simp only[Ty.cells,zPK] at h;subst h;rfl
 | .nif,x,c,_,h=>by simp only[Ty.cells,zPK] at h;subst h;rfl
 | .list _ _,x,c,_,h=>by simp only[Ty.cells,zPK] at h;subst h;rfl
 | .unit,x,c,_,h=>by cases h
 | .pair a b,x,c,hn,h=>by
   have h:c∈a.cells x.1++b.cells x.2:=h;have hn:(a.nol&&b.nol)=true:=hn;rw[zOG] at hn;rcases zPJ.1 h with q | q
   ·exact qAI a _ _ hn.1 q
   ·exact qAI b _ _ hn.2 q
omit [Yl] in
theorem q30 {f:TypeId->PV->PV}:∀ {ts:List TypeId} {xs:List PV},(∀ t x,x∈xs->f t x=x)->rtL f ts xs=xs
 | [],xs,_=>by cases xs <;> rfl
 | t::ts,[],_=>rfl
 | t::ts,x::xs,h=>by
   show f t x::rtL f ts xs=_;rw[h t x zON,q30 fun t y hy=>h t y (zOK _ hy)]
omit [Yl] in
theorem q3K {ty:TypeId}(t:Ty)(x:t.sem)(hn:t.nol=true):rt1 P ty (t.pv x)=t.pv x:=by
 unfold Ty.pv
 cases ht:t.one with
 | true=>exact nV (by rw[ht,hn];rfl)
 | false =>
   show PV.agg (rtL (rtC P) (vT P 8 ty) ((t.cells x).map .f))=_;rw[q30]
   ·rfl
   ·intro ty2 y hy;obtain⟨c,hc,rfl⟩:=zO6.1 hy;unfold rtC;rw[qAI t x c hn hc];cases Gc.ol ty2 <;> rfl
omit [Yl] in
theorem qW2 {f:TypeId->PV->PV}:∀ {ts:List TypeId} {xs rest:List PV},(∀ t x,x∈xs->f t x=x)->rtL f ts (xs++rest)=xs++rtL f (ts.drop xs.length) rest
 | ts,[],rest,_=>by simp
 | [],x::xs,rest,_=>by simp[rtL]
 | t::ts,x::xs,rest,h=>by
   show f t x::rtL f ts (xs++rest)=_;rw[h t x zON,qW2 fun t y hy=>h t y (zOK _ hy)];rfl
omit [Yl] in
theorem fM (t:Ty)(hn:t.nol=true){tys zFF:List TypeId}(h:olL tys t=cond t.nol (some (tys.drop t.w)) none)(e:olL tys t=some zFF)(x:t.sem)(rest:List PV):rtL (rtC P) tys ((t.cells x).map .f++rest)=(t.cells x).map .f++rtL (rtC P) zFF rest:=by
 have hd:zFF=tys.drop t.w:=by
  rw[h,hn] at e;cases e;rfl
 rw[qW2,hd,zOS,t.zE8];intro ty2 y hy;obtain⟨c,hc,rfl⟩:=zO6.1 hy;unfold rtC;rw[qAI t x c hn hc];cases Gc.ol ty2 <;> rfl
omit [Yl] in
theorem qWA:∀ (t:Ty) {tys zFF:List TypeId},olL tys t=some zFF->∀ (x:t.sem) (rest:List PV),rtL (rtC P) tys ((t.cells x).map .f++rest)=(t.cells x).map .f++rtL (rtC P) zFF rest
 | .pair a b,tys,zFF,e,x,rest=>by
   unfold olL at e;split at e
   ·rename_i r hr;show rtL (rtC P) tys ((a.cells x.1++b.cells x.2).map .f++rest)=(a.cells x.1++b.cells x.2).map .f++_;rw[zPS,zPE,qWA a hr,qWA b e,zPE]
   ·cases e
 | .ol el k,tys,zFF,e,x,rest=>by
   cases tys with
   | nil=>cases e
   | cons ty tys =>
     have e:cond (Gc.ol ty) (some tys) none=some zFF:=e
     cases ho:Gc.ol ty with
     | false=>rw[ho] at e;cases e
     | true =>
       rw[ho] at e;cases e;show rtC P ty (.f (fvo el k x))::rtL (rtC P) _ rest=.f (fvo el k x)::_;unfold rtC;rw[ho];rfl
 | .int k,tys,zFF,e,x,rest=>fM (.int k) rfl (by cases tys <;> rfl) e x rest
 | .bool,tys,zFF,e,x,rest=>fM .bool rfl (by cases tys <;> rfl) e x rest
 | .str,tys,zFF,e,x,rest=>fM .str rfl (by cases tys <;> rfl) e x rest
 | .raw,tys,zFF,e,x,rest=>fM .raw rfl (by cases tys <;> rfl) e x rest
 | .nif,tys,zFF,e,x,rest=>fM .nif rfl (by cases tys <;> rfl) e x rest
 | .list el u,tys,zFF,e,x,rest=>fM (.list el u) rfl (by cases tys <;> rfl) e x rest
 | .unit,tys,zFF,e,x,rest=>fM .unit rfl (by cases tys <;> rfl) e x rest
theorem qPJ {c:Option TypeId}{ty:TypeId}{t:Ty}{v:SV}{h:SH}{x:t.sem}{h':SH}(ho:OkH P h)(hv:v.ok h)(e:q1G P c ty t v h=some (x,h')) :
 Keep h h'∧OkH P h'∧(∀ ty2,c=some ty2->uK P ty2 t=true)∧rt1 P ty (t.pv x)=t.pv x∧∀ (Z:Nat->Prop) (H:IH) (m:Nat->Nat) (u:Value),Hp P Z H (own m (qD h.l))->VR P Z H (own m (qD h.l)) v.enc u->∃ Z',Fz P Z H m (qD h.l) Z' (qD h'.l)∧VR P Z' H (fun _=>none) (qHV c t x).enc u:=by
 unfold q1G at e
 cases c with
 | none =>
   obtain⟨y,a1,a2,a3,a4,a5⟩:=qB0 ho hv e;refine⟨a3,a4,fun _ h=>by (cases h),a5,fun Z H m u hp hu=>?_⟩;obtain⟨Z',c1,c2⟩:=qKC hp hu a1;refine⟨Z',c1,?_⟩;simp only[qHV,o8];rw[<-a2];exact qDQ c2
 | some ty2 =>
   simp only at e
   cases hlp:zB6 t v with
   | some y =>
     rw[hlp] at e;simp only at e;have hv2:=q1E hlp
     cases hcn:(uK P ty2 t&&(t.nol||(!t.one&&(olL (vT P 8 ty) t).isSome))) with
     | false=>rw[hcn] at e;cases e
     | true =>
       rw[hcn] at e;cases e;obtain⟨hc,hn⟩:uK P ty2 t=true∧(t.nol||(!t.one&&(olL (vT P 8 ty) t).isSome))=true:=by rwa [zOG] at hcn
       refine⟨.refl _,ho,fun _ h=>by cases h;exact hc,?_,fun Z H m u hp hu=>⟨Z,.refl hp,?_⟩⟩
       ·rcases Bool.or_eq_true_iff.1 hn with q | q
        ·exact q3K t _ q
        ·rw[zOG] at q;obtain⟨zFF,ht⟩:=zPN.1 q.2;have h1:t.one=false:=by simpa using q.1
         unfold Ty.pv;rw[h1];show PV.agg (rtL (rtC P) (vT P 8 ty) ((t.cells _).map .f))=_;have:=qWA (P:=P) t ht x [];rw[zQB] at this;rw[this];cases zFF <;> simp[rtL]
       ·rw[hv2] at hu;simp only[qHV,SV.enc] at hu ⊢
        cases hu with
        | lp a b c d=>exact .lp a b c d
   | none =>
   rw[hlp] at e;simp only at e
   cases hcn:(uK P ty2 t&&(t.nol||(!t.one&&q88 ty v h))) with
   | false=>rw[hcn] at e;cases e
   | true =>
     rw[hcn] at e;obtain⟨hc,hn⟩:uK P ty2 t=true∧(t.nol||(!t.one&&q88 ty v h))=true:=by rwa [zOG] at hcn
     have hrt:rt1 P ty (t.pv x)=t.pv x:=by
      rcases Bool.or_eq_true_iff.1 hn with q | q
      ·exact q3K t x q
      ·rw[zOG] at q;exact qXU ho e q.2 (by simpa using q.1)
     obtain⟨a1,a2,a3⟩:=qCY ho e;refine⟨a1,a2,fun _ h=>by cases h;exact hc,hrt,fun Z H m u hp hu=>?_⟩;obtain⟨Z',c1,c2⟩:=a3 Z H m u hp hu;refine⟨Z',c1,?_⟩;simp only[qHV,SV.enc];simpa [q00] using c2
structure zLK (P:Program) (cs:List (Option TypeId)) (tys:List TypeId) (ts:List Ty) (vs:List SV) (h:SH) (x:TyL ts) (h':SH):Prop where
 keep:Keep h h'
 ok:OkH P h'
 fz:∀ (Z:Nat->Prop) (H:IH) (m:Nat->Nat) (us:List Value),Hp P Z H (own m (qD h.l))->VRL P Z H (own m (qD h.l)) (qB vs) us->∃ Z',Fz P Z H m (qD h.l) Z' (qD h'.l)∧VRL P Z' H (fun _=>none) (qB (svM cs ts x)) us
 any:∀ (Z:Nat->Prop) (H:IH) (M M':Nat->Option (Nat×PO)) (us:List Value),VRL P Z H M (qB (svM cs ts x)) us->VRL P Z H M' (qB (svM cs ts x)) us
 rt:rtL (rt1 P) tys (pvL ts x)=pvL ts x
 load:∀ (ph:PHp) (rv:List ResultVar) (env:List PV),rv.map qS0=cs->(rv.map fun r=>(zL env (qYV r)).getD .unk)=qB (svM cs ts x)->qGM P env ph rv=some (pvL ts x)
theorem q99 {c:Option TypeId}{t:Ty}{x:t.sem}(hc:∀ ty2,c=some ty2->uK P ty2 t=true){ph:PHp}{r:ResultVar}{env:List PV}(h1:qS0 r=c)(h2:(zL env (qYV r)).getD .unk=(qHV c t x).enc):q2N P env ph r=some (t.pv x):=by
 subst h1
 cases r with
 | tmp i =>
   show some ((zL env i).getD .unk)=_;rw[show (zL env i).getD .unk=_ from h2];simp[qS0,qHV,o8]
 | cell a ty =>
   show fA P ty ((zL env a).getD .unk) ph=_;rw[show (zL env a).getD .unk=_ from h2];have:=qRC (x:=x) (ph:=ph) (hc ty rfl);simpa [qS0,qHV,SV.enc,q00] using this
theorem qU6:∀ {cs:List (Option TypeId)} {tys:List TypeId} {ts:List Ty} {vs:List SV} {h:SH} {x:TyL ts} {h':SH},OkH P h->okL h vs->qJ1 P cs tys ts vs h=some (x,h')->zLK P cs tys ts vs h x h'
 | [],tys,[],[],h,x,h',ho,hv,e=>by
   unfold qJ1 at e;cases e;refine⟨.refl _,ho,fun Z H m us hp hu=>⟨Z,.refl hp,?_⟩,fun Z H M M' us hu=>?_,(by cases tys <;> rfl),fun ph rv env h1 h2=>?_⟩
   ·simp only[qB] at hu;rw[hu.zE5];simp only[svM,qB];exact .nil
   ·simp only[svM,qB] at hu ⊢;rw[hu.zE5];exact .nil
   ·cases rv with
    | nil=>rfl
    | cons _ _=>cases h1
 | c::cs,ty::tys,[t],v::vs,h,x,h',ho,hv,e=>by
   unfold qJ1 at e;split at e
   case h_2=>cases e
   simp only[okL] at hv;obtain⟨a1,a2,a3,ar,a4⟩:=qPJ ho hv.1 e;refine⟨a1,a2,fun Z H m us hp hu=>?_,fun Z H M M' us hu=>?_,?_,fun ph rv env h1 h2=>?_⟩
   ·simp only[qB] at hu;obtain⟨u,us',rfl,b1,b2⟩:=hu.zE2;obtain⟨Z',c1,c2⟩:=a4 Z H m u hp b1;rw[b2.zE5];simp only[svM,qB];exact⟨Z',c1,.cons c2 .nil⟩
   ·simp only[svM,qB] at hu ⊢;obtain⟨u,us',rfl,b1,b2⟩:=hu.zE2;rw[b2.zE5];exact .cons (qPN c t x _ _ _ _ _ b1) .nil
   ·show rt1 P ty (t.pv x)::rtL (rt1 P) tys []=[t.pv x];rw[ar];cases tys <;> rfl
   ·match rv,h1,h2 with
    | [r],h1,h2 =>
      simp only[zOZ,zQQ,zPD,and_true] at h1;simp only[zOZ,zQQ,svM,qB,zPD,and_true] at h2;unfold qGM;rw[q99 a3 h1 h2];rfl
 | c::cs,ty::tys,t::u::ts,v::vs,h,x,h',ho,hv,e=>by
   unfold qJ1 at e;simp only[okL] at hv;split at e
   case h_2=>cases e
   rename_i x1 h1 hd;split at e
   case h_2=>cases e
   rename_i y h2 hd2;cases e;obtain⟨a1,a2,a3,ar,a4⟩:=qPJ ho hv.1 hd;have ih:=qU6 a2 (qI a1 hv.2) hd2;have hsv:svM (c::cs) (t::u::ts) (x1,y)=qHV c t x1::svM cs (u::ts) y:=rfl;refine⟨a1.trans ih.keep,ih.ok,fun Z H m us hp hu=>?_,fun Z H M M' us hu=>?_,?_,fun ph rv env g1 g2=>?_⟩
   ·simp only[qB] at hu;obtain⟨w,us',rfl,b1,b2⟩:=hu.zE2;obtain⟨Z1,d1,d2⟩:=a4 Z H m w hp b1;obtain⟨Z2,f1,f2⟩:=ih.fz Z1 H m us' d1.hp (d1.vrl b2);rw[hsv];simp only[qB];exact⟨Z2,d1.trans f1,.cons (d2.mono (p:=fun _=>false) f1.zle (zOI _) (fun _ _ _=>rfl) (.refl _ _) fun j hj=>by cases hj) f2⟩
   ·rw[hsv] at hu ⊢;simp only[qB] at hu ⊢;obtain⟨w,us',rfl,b1,b2⟩:=hu.zE2;exact .cons (qPN c t x1 _ _ _ _ _ b1) (ih.any _ _ _ _ _ b2)
   ·show rt1 P ty (t.pv x1)::rtL (rt1 P) tys (pvL (u::ts) y)=t.pv x1::pvL (u::ts) y;rw[ar,ih.rt]
   ·cases rv with
    | nil=>cases g1
    | cons r rv =>
      rw[hsv] at g2;simp only[zOZ,zPD] at g1;simp only[zOZ,qB,zPD] at g2;unfold qGM;rw[q99 a3 g1.1 g2.1,ih.load ph rv env g1.2 g2.2];rfl
 | [],_,[],_::_,_,_,_,_,_,e=>by unfold qJ1 at e;cases e
 | [],[],[_],_,_,_,_,_,_,e=>by unfold qJ1 at e;cases e
 | [],[],_::_::_,_,_,_,_,_,_,e=>by unfold qJ1 at e;cases e
 | [],_::_,[_],_,_,_,_,_,_,e=>by unfold qJ1 at e;cases e
 | [],_::_,_::_::_,_,_,_,_,_,_,e=>by unfold qJ1 at e;cases e
 | _::_,[],[],_,_,_,_,_,_,e=>by unfold qJ1 at e;cases e
 | _::_,_::_,[],_,_,_,_,_,_,e=>by unfold qJ1 at e;cases e
 | _::_,[],[_],_,_,_,_,_,_,e=>by unfold qJ1 at e;cases e
 | _::_,[],_::_::_,_,_,_,_,_,_,e=>by unfold qJ1 at e;cases e
 | _::_,_::_,[_],[],_,_,_,_,_,e=>by unfold qJ1 at e;cases e
 | _::_,_::_,_::_::_,[],_,_,_,_,_,e=>by unfold qJ1 at e;cases e
def rdR (P:Program)(hb:SH)(zG6:List TypeId)(rs:List Ty)(rv:List ResultVar)(env:List SV)(h:SH):Option (TyL rs):=match qF0 (rv.map qYV) env with
 | some vs=>(match qJ1 P (rv.map qS0) zG6 rs vs h with
   | some p=>cond (eP [] hb p.2) (some p.1) none
   | none=>none)
 | none=>none
def enR (N:Nat)(rv:List ResultVar)(rs:List Ty)(v:TyL rs):List SV:=(dI (rv.map qYV) (svM (rv.map qS0) rs v) (List.replicate N .unk)).1
omit [Yl] in
theorem qD1 (h:SH):∀ (n:Nat),okL h (List.replicate n .unk)
 | 0=>by simp[okL]
 | n+1=>by rw[zQF];simp only[okL];exact⟨by simp[SV.ok],qD1 h n⟩
theorem rJ:∀ (n:Nat),qB (List.replicate n .unk)=List.replicate n .unk
 | 0=>by simp[qB]
 | n+1=>by rw[zQF,zQF];simp only[qB,rJ n,SV.enc]
theorem qN3 {Z:Nat->Prop}{H:IH}{M:Nat->Option (Nat×PO)}{vals:List Value}:∀ {rl:List Nat} {l base:List SV} {ws:List Value},(∀ (j i:Nat),rl[j]?=some i->vals[i]?=ws[j]?)->VRL P Z H M (qB l) ws->VRL P Z H M (qB base) vals->VRL P Z H M (qB (dI rl l base).1) vals
 | [],l,base,ws,_,_,hb=>hb
 | i::is,[],base,ws,_,_,hb=>hb
 | i::is,c::l,base,ws,hc,hl,hb=>by
   simp only[qB] at hl;obtain⟨w,ws',rfl,h1,h2⟩:=hl.zE2;show VRL P Z H M (qB (dI is l (yR base i c)).1) vals;refine qN3 (ws:=ws') (fun j k hj=>by simpa using hc (j+1) k (by simpa using hj)) h2 ?_;rw[xZ];exact hb.slot (v:=w) (by simpa using hc 0 i rfl) h1
theorem qOZ {Z:Nat->Prop}{H:IH}{M:Nat->Option (Nat×PO)}{env:List SV}{vals:List Value}(hv:VRL P Z H M (qB env) vals):∀ {rl:List Nat} {vs:List SV},qF0 rl env=some vs->∃ ws,VRL P Z H M (qB vs) ws∧∀ (j i:Nat),rl[j]?=some i->vals[i]?=ws[j]?
 | [],vs,e=>by cases e;exact⟨[],by simp only[qB];exact .nil,fun j i h=>by simp at h⟩
 | i::is,vs,e=>by
   unfold qF0 at e;split at e
   ·rename_i v l hx hl;cases e;obtain⟨ws,h1,h2⟩:=qOZ hv hl;have hx2:(qB env)[i]?=some v.enc:=by rw[<-qF,qW,hx];rfl
    obtain⟨w,hw,hr⟩:=hv.get hx2;refine⟨w::ws,by simp only[qB];exact .cons hr h1,fun j k hj=>?_⟩
    cases j with
    | zero=>simp at hj;subst hj;simpa using hw
    | succ j=>simpa using h2 j k (by simpa using hj)
   ·cases e
omit [Yl] in
theorem q6C {Z:Nat->Prop}{H:IH}{M:Nat->Option (Nat×PO)}{vals:List Value}:VRL P Z H M (List.replicate vals.length .unk) vals:=⟨by simp,fun i z v h1 h2=>by
 rw[zQ8] at h1;split at h1
 ·cases h1;exact .unk
 ·cases h1⟩
omit [Yl] in
theorem qGS {env:List SV}:∀ {rl:List Nat} {vs:List SV},qF0 rl env=some vs->∀ z∈vs,z∈env
 | [],vs,e,z,hz=>by cases e;cases hz
 | i::is,vs,e,z,hz=>by
   unfold qF0 at e;split at e
   ·rename_i v l hx hl;cases e;rcases zO1.1 hz with q | q
    ·subst q;rw[qF] at hx;exact zPP hx
    ·exact qGS hl z q
   ·cases e
theorem qNZ {hb:SH}{zG6:List TypeId}{rs:List Ty}{rv:List ResultVar}{env:List SV}{h:SH}{v:TyL rs}(ho:OkH P h)(he:okL h env)(e:rdR P hb zG6 rs rv env h=some v) :
 ∃ vs h',qF0 (rv.map qYV) env=some vs∧zLK P (rv.map qS0) zG6 rs vs h v h'∧eP [] hb h'=true:=by
 unfold rdR at e;split at e
 case h_2=>cases e
 rename_i vs hvs;split at e
 case h_2=>cases e
 rename_i p hp;obtain⟨x,h'⟩:=p
 cases hc:eP [] hb h' with
 | false=>rw[hc] at e;cases e
 | true =>
   rw[hc] at e;cases e;exact⟨vs,h',hvs,qU6 ho (zM.2 fun z hz=>zM.1 he z (qGS hvs z hz)) hp,hc⟩
theorem qQU {hb:SH}(hob:OkH P hb){zG6:List TypeId}{rs:List Ty}{rv:List ResultVar}:zH1 P nm N hb (rdR P hb zG6 rs rv) (enR N rv rs):=by
 refine⟨hob,fun env h v ho he hl hbh e=>?_,fun env h v ho he hbh e k o hk=>?_,fun v=>by unfold enR;rw[qFB,zQ0],fun v h=>qL5 (qVG _ rs v) (qD1 h N)⟩
 ·obtain⟨vs,h',hvs,hd,hkp⟩:=qNZ ho he e;intro Z H m vals hh hv;obtain⟨ws,h1,h2⟩:=qOZ hv hvs;obtain⟨Z',c1,r2⟩:=hd.fz Z H m ws hh h1;have hdr:=Fz.drop c1.hp (ph':=qD hb.l) (qB5 fun k o hk=>nY hob (hbh.trans hd.keep) hkp (by simp) hk);have hlen:vals.length=N:=by rw[<-hv.len,qQ,hl]
  refine⟨Z',m,hdr.hp,?_,c1.step.trans hdr.step,(c1.kr _).trans (hdr.kr _)⟩;unfold enR;refine qN3 h2 (hd.any _ _ _ _ _ r2) ?_;rw[rJ,<-hlen];exact q6C
 ·obtain⟨vs,h',hvs,hd,hkp⟩:=qNZ ho he e;have:=qPC hob (hbh.trans hd.keep) hkp (by simp) hk;exact hd.keep.same k o this (zOM (hob.ver k o hk) hbh.next)
omit [Yl] in
theorem zBD (t:Ty)(x:t.sem)(ph:PHp):fzP P ph (t.pv x)=some (t.pv x,ph):=by
 unfold Ty.pv
 cases t.one with
 | true=>rfl
 | false=>simp only[cond_false,fzP,tZ]
omit [Yl] in
theorem q4I {ph:PHp}:∀ {xs:List PV},(∀ y∈xs,fzP P ph y=some (y,ph))->fzA P xs ph=some (xs,ph)
 | [],_=>rfl
 | x::xs,h=>by
   simp only[fzA,h x zON,q4I fun y hy=>h y (zOK _ hy)]
omit [Yl] in
theorem q53 (rs:List Ty)(x:TyL rs)(ph:PHp):fzR P ph (jD rs x)=some (jD rs x):=by
 have hm:∀ y∈pvL rs x,∃ (t:Ty) (z:t.sem),y=t.pv z:=fun y hy=>qCW hy
 unfold jD;generalize pvL rs x=l at hm
 have hz:∀ y∈l,fzP P ph y=some (y,ph):=fun y hy=>by
  obtain⟨t,z,rfl⟩:=hm y hy;exact zBD t z ph
 match l,hm,hz with
 | [],_,hz=>rfl
 | [v],hm,hz =>
   obtain⟨t,z,rfl⟩:=hm v zON;have:=hz _ zON;show fzR P ph (t.pv z)=some (t.pv z);unfold fzR;unfold Ty.pv at this ⊢
   cases ht:t.one with
   | true=>rw[ht] at this;simp only[cond_true] at this ⊢;rw[this]
   | false=>rw[ht] at this;simp only[cond_false] at this ⊢;rw[this]
 | a::b::l,_,hz =>
   show (match fzA P (a::b::l) ph with
    | some (ys,_)=>some (PV.tup ys)
    | none=>none)=_
   rw[q4I hz];rfl
omit [Yl] in
theorem qM3 (rs:List Ty)(x:TyL rs):q41 (jD rs x)=true:=by
 have hm:∀ y∈pvL rs x,qKP y=true:=fun y hy=>by
  obtain⟨t,z,rfl⟩:=qCW hy;exact qYD t z
 have hm2:∀ y∈pvL rs x,∃ (t:Ty) (z:t.sem),y=t.pv z:=fun y hy=>qCW hy
 unfold jD;generalize pvL rs x=l at hm hm2
 match l,hm,hm2 with
 | [],_,_=>rfl
 | [v],hm,hm2 =>
   have h1:=hm v zON;obtain⟨t,z,rfl⟩:=hm2 v zON;show q41 (t.pv z)=true;unfold Ty.pv at h1 ⊢
   cases ht:t.one with
   | true=>rfl
   | false=>rw[ht] at h1;exact h1
 | a::b::l,hm,_=>exact zOJ.2 hm
def qQE:List Nat->Bool
 | []=>true
 | i::l=>!mX i l&&qQE l
omit [Yl] in
theorem qPB:∀ {rl:List Nat} {l base:List SV},qQE rl=true->rl.length=l.length->(∀ i∈rl,i < base.length)->∀ (j i:Nat),rl[j]?=some i->zL (dI rl l base).1 i=l[j]?
 | [],l,base,_,_,_,j,i,h=>by simp at h
 | k::is,[],base,_,hl,_,j,i,h=>by simp at hl
 | k::is,c::l,base,hn,hl,hb,j,i,h=>by
   unfold qQE at hn;rw[zOG] at hn
   have hk:k ∉ is:=fun hm=>by
    have:=xK.2 hm;rw[this] at hn;exact absurd hn.1 (by simp)
   show zL (dI is l (yR base k c)).1 i=_
   cases j with
   | zero =>
     simp at h;subst h;rw[qF3 hk,qX,qF,zPA,if_pos rfl,if_pos (hb k zON)];rfl
   | succ j =>
     have h2:is[j]?=some i:=by simpa using h
     rw[qPB (rl:=is) (l:=l) hn.2 (by simpa using hl) (fun i hi=>by rw[jI];exact hb i (zOK _ hi)) j i h2];rfl
def zEF {rs:List Ty}(rdv:List SV->SH->Option (TyL rs)):vM none (TyL rs):=fun e _ env h=>match e with
 | .normal=>rdv env h
 | .ret=>rdv env h
 | _=>none
def nm0:Nm:=⟨0,fun _=>true⟩
def fnS (P:Program)(G:Nat->Bool)(T:yE)(IT:List (FuncId×zFI))(CI:CIT)(an:An)(as rs:List Ty)(fn:Func)(x:TyL as):Option (TyL rs):=match fn.body with
 | some c=>(ev (Γ:=none) P G T IT CI yi0 an (rdR P ⟨0,[]⟩ fn.resultTypes.toList rs fn.results.toList) (enR fn.ntmps fn.results.toList rs) ⟨0,[]⟩ c false nm0 () (svL as x++List.replicate (fn.ntmps - as.length) .unk) ⟨0,[]⟩ (zEF (rdR P ⟨0,[]⟩ fn.resultTypes.toList rs fn.results.toList))).run
 | none=>none
def qSW (as rs:List Ty)(fn:Func):Bool:=match fn.body with
 | some _=>qQE (fn.results.toList.map qYV)&&(Nat.beq fn.results.toList.length rs.length&&(Nat.ble as.length fn.ntmps&&(fn.results.toList.map qYV).all fun i=>Nat.blt i fn.ntmps))
 | none=>false
omit [Yl] in
theorem Runs.zLL {rd:Bool}{c:Code}{env:List PV}{ph:PHp}{Q:PQ}(h:Runs P G rd nm c env ph fun e pe p=>∃ pe' p',Wk P nm pe p pe' p'∧Q e pe' p'):Runs P G rd nm c env ph Q:=by
 intro Z H m zEZ hp hb he;refine (h Z H m zEZ hp hb he).mono ?_;rintro o ⟨Z',m',env',ph',a,b,c,d,pe',p',hw,e⟩;obtain⟨Z1,m1,a1,a2,a3,a4⟩:=hw Z' o.H m' o.env a b;exact⟨Z1,m1,pe',p',a1,a2,c.trans a3,d.trans a4,e⟩
theorem zDA:YOk P G (Γ:=GV none) q9P yi0:=fun g y g' b h=>by cases h
theorem zAQ [zFJ P G]{nat:xC}{T:yE}{IT:List (FuncId×zFI)}{CI:CIT}{an:An}{as rs:List Ty}{g:FuncId}{fn:Func}(s:zFT P good nat G tab)(ht:qP0 tab T)(hit:q3T P G IT)(hci:qU8 P G CI)(hfn:P.funcs[g]?=some fn)(hc:qSW as rs fn=true) :
 zDV P G g nm0 (enL as) (fnS P G T IT CI an as rs fn) (jD rs):=by
 unfold qSW at hc;split at hc
 case h_2=>cases hc
 rename_i c hbody;simp only[zOG] at hc;obtain⟨c1,c2,c3,c4⟩:=hc;refine⟨fn,c,hfn,hbody,fun x y hF=>⟨fn.ntmps,rfl,?_⟩⟩;unfold fnS at hF;rw[hbody] at hF;have hF:(ev (Γ:=none) P G T IT CI yi0 an (rdR P ⟨0,[]⟩ fn.resultTypes.toList rs fn.results.toList) (enR fn.ntmps fn.results.toList rs) ⟨0,[]⟩ c false nm0 () (svL as x++List.replicate (fn.ntmps - as.length) .unk) ⟨0,[]⟩ (zEF (rdR P ⟨0,[]⟩ fn.resultTypes.toList rs fn.results.toList))).run=some y:=hF;have hal:as.length<=fn.ntmps:=zOQ c3
 have hlen:(svL as x++List.replicate (fn.ntmps - as.length) SV.unk).length=fn.ntmps:=by
  rw[zO0,qGZ,zQ0];omega
 have hrd:∀ nm,zH1 P nm fn.ntmps ⟨0,[]⟩ (rdR P ⟨0,[]⟩ fn.resultTypes.toList rs fn.results.toList) (enR fn.ntmps fn.results.toList rs):=fun nm=>qQU rO
 have zE6:(enL as).p x++List.replicate (fn.ntmps - ((enL as).p x).length) PV.unk=qB (svL as x++List.replicate (fn.ntmps - as.length) .unk):=by
  have:(enL as).p x=qB (svL as x):=(qBJ as x).symm;rw[bJ,rJ,this,qQ,qGZ]
 rw[zE6];have hrun:=qU.runs (q1F (Γ:=none) (wd:=q9P) s ht hit hci zDA hrd c rO (gZ (qCM as x) (qD1 _ _)) hlen (.refl _) hF);refine Runs.zLL (hrun.mono ?_);rintro e pe ph ⟨env',h',rfl,rfl,k1,k2,k3,k0,k4,k5⟩
 obtain⟨he,hr⟩:(e=.normal∨e=.ret)∧rdR P ⟨0,[]⟩ fn.resultTypes.toList rs fn.results.toList env' h'=some y:=by
  cases e with
  | normal=>exact⟨.inl rfl,k5⟩
  | ret=>exact⟨.inr rfl,k5⟩
  | exit _=>cases k5
  | goto _=>cases k5
 obtain⟨_,_,_,hd,_⟩:=qNZ k2 k1 hr;refine⟨_,_,(hrd nm0).wk _ _ _ k2 k1 k3 k0 hr,he,jD rs y,?_,q53 rs y _⟩;unfold vX;have hll:(fn.results.toList.map qYV).length=(svM (fn.results.toList.map qS0) rs y).length:=by rw[qLT,zOS];exact zOH c2
 have hl2:(fn.results.toList.map fun r=>(zL (qB (enR fn.ntmps fn.results.toList rs y)) (qYV r)).getD PV.unk)=qB (svM (fn.results.toList.map qS0) rs y):=by
  apply zP2;intro j;rw[zOX,zH (svM _ rs y),zOX]
  cases hj:fn.results.toList[j]? with
  | none =>
    have:(svM (fn.results.toList.map qS0) rs y)[j]?=none:=by
     rw[zRH] at hj ⊢;rw[zOS] at hll;omega
    rw[this];rfl
  | some rr =>
    have hg:=qPB (l:=svM (fn.results.toList.map qS0) rs y) (base:=List.replicate fn.ntmps .unk) c1 hll (fun i hi=>by
     have:=zOJ.1 c4 i hi;rw[zQ0]
     exact zOQ this) j (qYV rr) (by rw[zOX,hj];rfl)
    simp only[zOW];rw[qW];unfold enR;rw[hg]
    have hlt:j < (svM (fn.results.toList.map qS0) rs y).length:=by
     rw[<-hll,zOS];exact (zOO.1 hj).1
    rw[zOL hlt];rfl
 rw[hd.load _ fn.results.toList _ rfl hl2];show some (qC2 (rtL (rt1 P) fn.resultTypes.toList (pvL rs y)))=some (jD rs y);rw[hd.rt];rfl
end
end Go.Sv
namespace Go.Sv
open Go.Idl
variable {P:Program}
def zD8 (s:ByteArray)(c:Int):Int:=s.foldl (fun n x=>if x==c.toNat.toUInt8 then n+1 else n) ((0:Nat):Int)
def zDQ (s:ByteArray)(c:Int):Int:=match (List.range s.size).find? (fun i=>s[i]! == c.toNat.toUInt8) with
 | some i=>(i:Int)
 | none=>-1
def q37 (x y c:Int):Int:=Int.ofNat ((x.toNat+y.toNat+c.toNat) % 18446744073709551616)
def q3V (x y c:Int):Int:=Int.ofNat ((x.toNat+y.toNat+c.toNat) / 18446744073709551616)
def qUJ (x y c:Int):Int:=Int.ofNat ((x.toNat+18446744073709551616 - y.toNat - c.toNat) % 18446744073709551616)
def qUK (x y c:Int):Int:=Int.ofNat (cond (Nat.blt x.toNat (y.toNat+c.toNat)) 1 0)
def zEC (fn:Func):Nat:=cond (fn.body.isNone&&fn.origin == "") (cond (fn.name == "internal/bytealg.CountString") 1 (cond (fn.name == "internal/bytealg.IndexByteString") 2 (cond (fn.name == "math/bits.Add64") 3 (cond (fn.name == "math/bits.Sub64") 4 0)))) 0
def q65 (P:Program)(g:FuncId):Nat:=match P.funcs[g]? with
 | some fn=>zEC fn
 | none=>0
theorem qFL {P:Program}{g:FuncId}{n:Nat}(h:q65 P g=n+1):∃ fn,P.funcs[g]?=some fn∧fn.body=none∧fn.origin = "" ∧ qNX P g=true∧((n=0∧fn.name = "internal/bytealg.CountString")∨(n=1∧fn.name = "internal/bytealg.IndexByteString")∨(n=2∧fn.name = "math/bits.Add64")∨(n=3∧fn.name = "math/bits.Sub64")):=by
 unfold q65 at h;split at h
 case h_2=>cases h
 rename_i fn hfn;unfold zEC at h
 cases hc:(fn.body.isNone&&fn.origin == "") with
 | false=>rw[hc] at h;cases h
 | true =>
   rw[hc] at h;simp only[cond_true] at h;rw[zOG] at hc
   have ho:fn.origin = "" := by simpa using hc.2
   have hb:fn.body=none:=by simpa using hc.1
   have hx:∀ s,fn.name=s->(s == "internal/abi.NoEscape")=false->qNX P g=true:=fun s hs h0=>by
    unfold qNX;rw[hfn];simp only;rw[hc.1,hs,h0];rfl
   refine⟨fn,hfn,hb,ho,?_⟩
   cases h1:(fn.name == "internal/bytealg.CountString") with
   | true =>
     rw[h1] at h
     have h1:fn.name = "internal/bytealg.CountString" := by simpa using h1
     have h:1=n+1:=h;exact⟨hx _ h1 (by decide),.inl ⟨by omega,h1⟩⟩
   | false =>
     rw[h1] at h
     cases h2:(fn.name == "internal/bytealg.IndexByteString") with
     | true =>
       rw[h2] at h
       have h2:fn.name = "internal/bytealg.IndexByteString" := by simpa using h2
       have h:2=n+1:=h;exact⟨hx _ h2 (by decide),.inr (.inl ⟨by omega,h2⟩)⟩
     | false =>
       rw[h2] at h
       cases h3:(fn.name == "math/bits.Add64") with
       | true =>
         rw[h3] at h
         have h3:fn.name = "math/bits.Add64" := by simpa using h3
         have h:3=n+1:=h;exact⟨hx _ h3 (by decide),.inr (.inr (.inl ⟨by omega,h3⟩))⟩
       | false =>
         rw[h3] at h
         cases h4:(fn.name == "math/bits.Sub64") with
         | true =>
           rw[h4] at h
           have h4:fn.name = "math/bits.Sub64" := by simpa using h4
           have h:4=n+1:=h;exact⟨hx _ h4 (by decide),.inr (.inr (.inr ⟨by omega,h4⟩))⟩
         | false=>rw[h4] at h;cases h
theorem dX {α β:Type}(s:Sem α)(g:α->Sem β):z8 P (s >>= g)=(z8 P s).bind fun a=>z8 P (g a):=kF g s
theorem zDM:z8 P program=some P:=rfl
theorem zDK {q:Mark}:z8 P (mark q)=some ():=rfl
theorem qAF {g:FuncId}{fn:Func}{e:Array Value->Sem Value}{vs:Array Value}{v:Value}(hfn:P.funcs[g]?=some fn)(hb:fn.body=none)(hn:(fn.name == "runtime.NumGoroutine")=false)(h1:Extern.findNext fn=none)(h2:Extern.find fn=some e)(h3:z8 P (e vs)=some v) :
 z8 P (callFunc g vs)=some (.value v):=by
 unfold callFunc;rw[dX,zDM,zO2,hfn];simp only[hn,zQX,if_false,hb,Option.isNone_none,if_true,h1,h2];rw[dX,zDK,zO2];show z8 P (do pure (Next.value (<- e vs)))=_;rw[dX,h3];rfl
theorem qRD {fn:Func}(h:fn.name = "internal/bytealg.CountString")(ho:fn.origin = ""):Extern.findNext fn=none∧Extern.find fn=some Extern.BytealgCount.count:=by
 unfold Extern.findNext Extern.find;simp only[h,ho];exact⟨by kernel_rfl,by kernel_rfl⟩
theorem find_index {fn:Func}(h:fn.name = "internal/bytealg.IndexByteString")(ho:fn.origin = ""):Extern.findNext fn=none∧Extern.find fn=some Extern.BytealgIndexByte.indexByte:=by
 unfold Extern.findNext Extern.find;simp only[h,ho];exact⟨by kernel_rfl,by kernel_rfl⟩
theorem qVF {g:FuncId}{s:ByteArray}{c:Int}(h:q65 P g=1):qNX P g=true∧z8 P (callFunc g #[.string s,.int .u8 c])=some (.value (.int .i64 (zD8 s c))):=by
 obtain⟨fn,h1,h2,h3,h4,h5⟩:=qFL (n:=0) h
 rcases h5 with ⟨_,h5⟩ | ⟨h6,_⟩ | ⟨h6,_⟩ | ⟨h6,_⟩
 ·obtain⟨a,b⟩:=qRD h5 h3;refine⟨h4,qAF h1 h2 (by rw[h5];decide) a b ?_⟩;show z8 P (do let b <- Extern.Bytes.bytesOf (.string s);let c <- Extern.Bytes.asByte (.int .u8 c);pure (goInt (b.foldl (fun n x=>if x==c then n+1 else n) (0:Nat))))=_;rw[dX,show z8 P (Extern.Bytes.bytesOf (.string s))=some s from rfl,zO2,dX,show z8 P (Extern.Bytes.asByte (.int .u8 c))=some c.toNat.toUInt8 from rfl,zO2];rfl
 all_goals cases h6
theorem qUY {g:FuncId}{s:ByteArray}{c:Int}(h:q65 P g=2):qNX P g=true∧z8 P (callFunc g #[.string s,.int .u8 c])=some (.value (.int .i64 (zDQ s c))):=by
 obtain⟨fn,h1,h2,h3,h4,h5⟩:=qFL (n:=1) h
 rcases h5 with ⟨h6,_⟩ | ⟨_,h5⟩ | ⟨h6,_⟩ | ⟨h6,_⟩
 ·cases h6
 rotate_left
 ·cases h6
 ·cases h6
 ·obtain⟨a,b⟩:=find_index h5 h3;refine⟨h4,qAF h1 h2 (by rw[h5];decide) a b ?_⟩
  show z8 P (match (List.range s.size).find? (fun i=>s[i]! == c.toNat.toUInt8) with
   | some i=>pure (goInt i)
   | none=>pure (goInt (-1)))=_
  unfold zDQ;cases (List.range s.size).find? (fun i=>s[i]! == c.toNat.toUInt8) <;> rfl
def zEH:Array Value->Sem Value:=fun args=>do
 let (x,y,c) <- Extern.MathBitsCarry.three "Add64" args
 pure (Extern.MathBitsCarry.pair ((x+y+c) % Extern.MathBitsCarry.m64) ((x+y+c) / Extern.MathBitsCarry.m64))
def zEB:Array Value->Sem Value:=fun args=>do
 let (x,y,b) <- Extern.MathBitsCarry.three "Sub64" args
 pure (Extern.MathBitsCarry.pair ((x+Extern.MathBitsCarry.m64 - y - b) % Extern.MathBitsCarry.m64) (if x < y+b then 1 else 0))
theorem q0K {fn:Func}(h:fn.name = "math/bits.Add64")(ho:fn.origin = ""):Extern.findNext fn=none∧Extern.find fn=some zEH:=by
 unfold Extern.findNext Extern.find;simp only[h,ho];exact⟨by kernel_rfl,by kernel_rfl⟩
theorem q0E {fn:Func}(h:fn.name = "math/bits.Sub64")(ho:fn.origin = ""):Extern.findNext fn=none∧Extern.find fn=some zEB:=by
 unfold Extern.findNext Extern.find;simp only[h,ho];exact⟨by kernel_rfl,by kernel_rfl⟩
theorem qOI {n:String}{x y:Int}:∀ {c:Int},Nat.ble c.toNat 1=true->z8 P (Extern.MathBitsCarry.three n #[.int .u64 x,.int .u64 y,.int .u64 c])=some (x.toNat,y.toNat,c.toNat)
 | .ofNat 0,_=>rfl
 | .ofNat 1,_=>rfl
 | .ofNat (n+2),h=>by
   have:=zOQ h;simp at this;omega
 | .negSucc m,_=>rfl
theorem q7C {g:FuncId}{x y c:Int}(h:q65 P g=3)(hc:Nat.ble c.toNat 1=true):qNX P g=true∧z8 P (callFunc g #[.int .u64 x,.int .u64 y,.int .u64 c])=some (.value (.tuple #[.int .u64 (q37 x y c),.int .u64 (q3V x y c)])):=by
 obtain⟨fn,h1,h2,h3,h4,h5⟩:=qFL (n:=2) h
 rcases h5 with ⟨h6,_⟩ | ⟨h6,_⟩ | ⟨_,h5⟩ | ⟨h6,_⟩
 ·cases h6
 ·cases h6
 ·obtain⟨a,b⟩:=q0K h5 h3;refine⟨h4,qAF h1 h2 (by rw[h5];decide) a b ?_⟩;unfold zEH;rw[dX,qOI hc];rfl
 ·cases h6
theorem q7Y {g:FuncId}{x y c:Int}(h:q65 P g=4)(hc:Nat.ble c.toNat 1=true):qNX P g=true∧z8 P (callFunc g #[.int .u64 x,.int .u64 y,.int .u64 c])=some (.value (.tuple #[.int .u64 (qUJ x y c),.int .u64 (qUK x y c)])):=by
 obtain⟨fn,h1,h2,h3,h4,h5⟩:=qFL (n:=3) h
 rcases h5 with ⟨h6,_⟩ | ⟨h6,_⟩ | ⟨h6,_⟩ | ⟨_,h5⟩
 ·cases h6
 ·cases h6
 ·cases h6
 ·obtain⟨a,b⟩:=q0E h5 h3;refine⟨h4,qAF h1 h2 (by rw[h5];decide) a b ?_⟩;unfold zEB;rw[dX,qOI hc];simp only[zO2];show some (Extern.MathBitsCarry.pair ((x.toNat+18446744073709551616 - y.toNat - c.toNat) % 18446744073709551616) (if x.toNat < y.toNat+c.toNat then 1 else 0))=_;unfold qUJ qUK Extern.MathBitsCarry.pair;by_cases hlt:x.toNat < y.toNat+c.toNat
  ·rw[if_pos hlt,show Nat.blt x.toNat (y.toNat+c.toNat)=true from zOV hlt];rfl
  ·rw[if_neg hlt,show Nat.blt x.toNat (y.toNat+c.toNat)=false from Bool.eq_false_iff.2 fun h=>hlt (zOQ h)];rfl
noncomputable section
variable [Gc]
class Hnd where
 ci:CIT
class zFQ (P:Program) (G:Nat->Bool) [Hnd]:Prop where
 ok:∀ [Yl],qU8 P G Hnd.ci
instance (priority:=low) zKD:Hnd:=⟨fun _ _ _ _ _ _=>.fail⟩
instance (priority:=low) hndOk0 {G:Nat->Bool}:@zFQ _ P G zKD:=by
 letI:Hnd:=zKD
 refine⟨fun {_}=>?_⟩;intro R nm f as h K r ho ha e;cases e
variable [Yl]{R:Type}{r:R}{G:Nat->Bool}
def zB5 (P:Program)(f:FuncId)(as:List SV)(h:SH)(K:SV->SH->zEY R)(F:zEY R):zEY R:=match q65 P f,as with
 | 1,[x,y]=>(match asS x,asI y with
   | some s,some (.u8,c)=>K (.d (.int .i64) (zD8 s c)) h
   | _,_=>.fail)
 | 2,[x,y]=>(match asS x,asI y with
   | some s,some (.u8,c)=>K (.d (.int .i64) (zDQ s c)) h
   | _,_=>.fail)
 | 3,[x,y,z]=>(match asI x,asI y,asI z with
   | some (.u64,a),some (.u64,b),some (.u64,c)=>.ite (Nat.ble c.toNat 1) (K (.tup [.d (.int .u64) (q37 a b c),.d (.int .u64) (q3V a b c)]) h) .fail
   | _,_,_=>.fail)
 | 4,[x,y,z]=>(match asI x,asI y,asI z with
   | some (.u64,a),some (.u64,b),some (.u64,c)=>.ite (Nat.ble c.toNat 1) (K (.tup [.d (.int .u64) (qUJ a b c),.d (.int .u64) (qUK a b c)]) h) .fail
   | _,_,_=>.fail)
 | _,_=>F
end
end Go.Sv
namespace Go.Sv
open Go.Idl
noncomputable section
variable [Gc]
variable [Frs]
variable [Yl]
variable {P:Program}{G:Nat->Bool}{nm:Nm}{tab:uT}{nat:xC}{good:FuncId->Bool}{T:yE}{IT:List (FuncId×zFI)}
omit [Yl] in
theorem q02 {g:FuncId}{fn:Func}{c:Code}{N:Nat}{args:List PV}{ph:PHp}{R:PV->PHp->Prop}(hent:enters P g=true)(hfn:P.funcs[g]?=some fn)(hb:fn.body=some c)(hN:fn.ntmps=N)
 (h:Runs P G false nm c (args++List.replicate (N - args.length) .unk) ph fun e pe p=>(e=.normal∨e=.ret)∧∃ v,vX P fn pe p=some v∧R v p) :
 qDE P G nm g args ph R:=by
 refine .inr ⟨hent,fun Z H m zFC hp hbs hv=>?_⟩;refine uS.of hfn hb hN ?_
 have zE6:VRL P Z H (own m ph) (args++List.replicate (N - args.length) .unk) (zFC++List.replicate (N - zFC.length) undef):=by
  rw[hv.len];refine VRL.append hv ⟨by simp,fun i z v h1 h2=>?_⟩;rw[zQ8] at h1;split at h1
  ·cases h1;exact .unk
  ·cases h1
 refine (h Z H m _ hp hbs zE6).mono ?_;rintro o ⟨Z',m',env',ph',a1,b1,c1,d1,he,v,hr,hR⟩;refine⟨he,?_⟩;obtain⟨u,v1,v2⟩:=mH a1 b1 hr;exact⟨u,v1,Z',m',v,ph',a1,v2,c1,d1,hR⟩
def rtS (P:Program)(ty:TypeId):SV->Option SV
 | .d t x=>cond (t.one&&t.nol) (some (.d t x)) none
 | .c (.slice none 0 0)=>match zS P ty with
   | some el=>(match qD3 P 8 el with
     | some t=>some (.d (.list el t) [])
     | none=>none)
   | none=>none
 | .c (.int k x)=>some (.c (.int k x))
 | .c .nilIface=>some (.c .nilIface)
 | .c (.bool b)=>some (.c (.bool b))
 | .c (.string b)=>some (.c (.string b))
 | .own k g n=>some (.own k g n)
 | .sl k g n o m=>some (.sl k g n o m)
 | .ref k o w=>some (.ref k o w)
 | .elt k g n w j o=>some (.elt k g n w j o)
 | .lp t xs j o=>some (.lp t xs j o)
 | .fn f a b=>some (.fn f a b)
 | _=>none
def zB4 (P:Program):List TypeId->List SV->Option (List SV)
 | ty::tys,v::l=>(match cond (Gc.ol ty) (some v) (rtS P ty v),zB4 P tys l with
   | some x,some y=>some (x::y)
   | _,_=>none)
 | [],l=>some l
 | _::_,[]=>some []
def zCL (P:Program)(ty:TypeId):SV->Option SV
 | .agg l=>(match zB4 P (vT P 8 ty) l with
   | some l'=>some (.agg l')
   | none=>none)
 | v=>rtS P ty v
theorem qQZ {ty:TypeId}{v v':SV}(e:rtS P ty v=some v'):(rt1 P ty v.enc=v'.enc∧rt0 P ty v.enc=v'.enc)∧∀ h,v.ok h->v'.ok h:=by
 unfold rtS at e;split at e
 ·rename_i t x
  cases ht:(t.one&&t.nol) with
  | true =>
    rw[ht] at e;cases e
    refine⟨⟨?_,?_⟩,fun h hv=>hv⟩ <;>
    ·simp only[SV.enc];exact nV ht
  | false=>rw[ht] at e;cases e
 ·split at e
  ·rename_i el hel;split at e
   ·rename_i t ht;cases e
    refine⟨⟨?_,?_⟩,fun h _=>by simp[SV.ok]⟩ <;>
    ·simp only[SV.enc,fvv]
     show (match zS P ty with
      | some el=>PV.f (.l el 0 [])
      | none=>fvv (.slice none 0 0))=_
     rw[hel];rfl
   ·cases e
  ·cases e
 all_goals first
  | (cases e;exact⟨⟨by simp only[SV.enc];rfl,by simp only[SV.enc];rfl⟩,fun h hv=>hv⟩)
  | cases e
theorem qTS:∀ {tys:List TypeId} {l l':List SV},zB4 P tys l=some l'->rtL (rtC P) tys (qB l)=qB l'∧∀ h,okL h l->okL h l'
 | [],l,l',e=>by
   have e:some l=some l':=by cases l <;> exact e
   cases e;exact⟨by cases qB l <;> rfl,fun _ h=>h⟩
 | ty::tys,[],l',e=>by
   cases e;exact⟨by simp[qB,rtL],fun _ h=>h⟩
 | ty::tys,v::l,l',e=>by
   unfold zB4 at e;split at e
   ·rename_i x y hx hy;cases e;obtain⟨b1,b2⟩:=qTS hy
    have hv:rtC P ty v.enc=x.enc∧∀ h,v.ok h->x.ok h:=by
     unfold rtC
     cases hc:Gc.ol ty with
     | true=>rw[hc] at hx;cases hx;exact⟨rfl,fun _ h=>h⟩
     | false=>rw[hc] at hx;exact⟨(qQZ hx).1.2,(qQZ hx).2⟩
    refine⟨?_,fun h hl=>?_⟩
    ·simp only[qB,rtL,hv.1,b1]
    ·simp only[okL] at hl ⊢;exact⟨hv.2 h hl.1,b2 h hl.2⟩
   ·cases e
theorem q6I {ty:TypeId}{v v':SV}(e:zCL P ty v=some v'):rt1 P ty v.enc=v'.enc∧∀ h,v.ok h->v'.ok h:=by
 unfold zCL at e;split at e
 ·rename_i l;split at e
  ·rename_i l' hl;cases e;obtain⟨a1,a2⟩:=qTS hl;refine⟨?_,fun h hv=>?_⟩
   ·simp only[SV.enc];show PV.agg (rtL (rtC P) (vT P 8 ty) (qB l))=_;rw[a1]
   ·simp only[SV.ok] at hv ⊢;exact a2 h hv
  ·cases e
 ·exact⟨(qQZ e).1.1,(qQZ e).2⟩
def q8G (P:Program):List TypeId->List SV->Option (List SV)
 | _,[]=>some []
 | ty::tys,v::l=>(match zCL P ty v,q8G P tys l with
   | some x,some y=>some (x::y)
   | _,_=>none)
 | [],_::_=>none
theorem qTE:∀ {tys:List TypeId} {l l':List SV},q8G P tys l=some l'->rtL (rt1 P) tys (qB l)=qB l'∧∀ h,okL h l->okL h l'
 | tys,[],l',e=>by
   have:some []=some l':=by cases tys <;> exact e
   cases this;exact⟨by cases tys <;> simp[qB,rtL],fun h hl=>hl⟩
 | ty::tys,v::l,l',e=>by
   unfold q8G at e;split at e
   ·rename_i x y hx hy;cases e;obtain⟨a1,a2⟩:=q6I hx;obtain⟨b1,b2⟩:=qTE hy;refine⟨?_,fun h hl=>?_⟩
    ·simp only[qB,rtL,a1,b1]
    ·simp only[okL] at hl ⊢;exact⟨a2 h hl.1,b2 h hl.2⟩
   ·cases e
 | [],_::_,_,e=>by cases e
def qS3:List SV->SV
 | [v]=>v
 | vs=>.tup vs
def zCV {R:Type}(P:Program)(zG6:List TypeId)(rl:List Nat)(K:SV->SH->zEY R):vM none R:=fun e _ env h=>match e with
 | .normal=>(match qF0 rl env with
   | some vs=>(match q8G P zG6 vs with
     | some ws=>K (qS3 ws) h
     | none=>.fail)
   | none=>.fail)
 | .ret=>(match qF0 rl env with
   | some vs=>(match q8G P zG6 vs with
     | some ws=>K (qS3 ws) h
     | none=>.fail)
   | none=>.fail)
 | _=>.fail
def q5Z:List ResultVar->Option (List Nat)
 | []=>some []
 | .tmp t::l=>(q5Z l).map (t::·)
 | .cell _ _::_=>none
omit [Yl] in
theorem qIO {env:List PV}{ph:PHp}:∀ {l:List ResultVar} {rl:List Nat},q5Z l=some rl->qGM P env ph l=some (rl.map fun t=>(zL env t).getD .unk)
 | [],rl,e=>by cases e;rfl
 | .tmp t::l,rl,e=>by
   obtain⟨rl',h1,rfl⟩:=zOR.1 e;simp only[qGM,q2N,qIO h1,zOZ]
 | .cell _ _::_,rl,e=>by cases e
abbrev Ans:=List (FuncId×(An×List Ty))
def ciN [Hnd](P:Program)(G:Nat->Bool)(T:yE)(IT:List (FuncId×zFI))(ans:Ans):Nat->CIT
 | 0=>fun R nm f as h K=>zB5 P f as h K (Hnd.ci R nm f as h K)
 | n+1=>fun R nm f as h K=>match P.funcs[f]?,lkA f ans with
   | some fn,some (an,rs)=>(match fn.body,q5Z fn.results.toList with
     | some c,some rl=>cond (enters P f&&Nat.ble as.length fn.ntmps) (ev (Γ:=none) P G T IT (ciN P G T IT ans n) yi0 an (rdR P h fn.resultTypes.toList rs fn.results.toList) (enR fn.ntmps fn.results.toList rs) h c false nm () (as++List.replicate (fn.ntmps - as.length) .unk) h (zCV P fn.resultTypes.toList rl K)) .fail
     | _,_=>.fail)
   | _,_=>zB5 P f as h K (Hnd.ci R nm f as h K)
theorem qYN {R:Type}{nm:Nm}{f:FuncId}{as:List SV}{h:SH}{K:SV->SH->zEY R}{F:zEY R}{r:R}(ho:OkH P h)(e:(zB5 P f as h K F).run=some r) :
 qDE P G nm f (qB as) (qD h.l) (fun v p=>∃ v' h',v=v'.enc∧p=qD h'.l∧Post P h h' v'∧(K v' h').run=some r)∨F.run=some r:=by
 have go:∀ {x y:SV} {s:ByteArray} {c z:Int},asS x=some s->asI y=some (.u8,c)->qNX P f=true∧z8 P (callFunc f #[.string s,.int .u8 c])=some (.value (.int .i64 z))->(K (.d (.int .i64) z) h).run=some r ->
  qDE P G nm f (qB [x,y]) (qD h.l) (fun v p=>∃ v' h',v=v'.enc∧p=qD h'.l∧Post P h h' v'∧(K v' h').run=some r):=fun {x y s c z} hs hc hx hk=>by
  refine .inl ⟨hx.1,[.string s,.int .u8 c],.int .i64 z,?_,rfl,hx.2,rfl,_,h,?_,rfl,⟨.refl _,ho,?_⟩,hk⟩
  ·simp only[qB,gT hs,yF hc];rfl
  ·simp[SV.enc,Ty.fv];rfl
  ·simp[SV.ok]
 have go3:∀ {x y z:SV} {a b c u v:Int},asI x=some (.u64,a)->asI y=some (.u64,b)->asI z=some (.u64,c)->qNX P f=true∧z8 P (callFunc f #[.int .u64 a,.int .u64 b,.int .u64 c])=some (.value (.tuple #[.int .u64 u,.int .u64 v]))->(K (.tup [.d (.int .u64) u,.d (.int .u64) v]) h).run=some r ->
  qDE P G nm f (qB [x,y,z]) (qD h.l) (fun v p=>∃ v' h',v=v'.enc∧p=qD h'.l∧Post P h h' v'∧(K v' h').run=some r):=fun {x y z a b c u v} ha hb hc hx hk=>by
  refine .inl ⟨hx.1,[.int .u64 a,.int .u64 b,.int .u64 c],.tuple #[.int .u64 u,.int .u64 v],?_,rfl,hx.2,rfl,_,h,?_,rfl,⟨.refl _,ho,?_⟩,hk⟩
  ·simp only[qB,yF ha,yF hb,yF hc];rfl
  ·simp[SV.enc,qB,Ty.fv];rfl
  ·simp[SV.ok,okL]
 unfold zB5 at e;split at e
 ·rename_i x y hx;split at e
  ·rename_i s c hs hc;exact .inl (go hs hc (qVF hx) e)
  ·cases e
 ·rename_i x y hx;split at e
  ·rename_i s c hs hc;exact .inl (go hs hc (qUY hx) e)
  ·cases e
 ·rename_i x y z hx;split at e
  ·rename_i a b c ha hb hc
   rcases run_ite e with ⟨q,e1⟩ | ⟨_,e1⟩
   ·exact .inl (go3 ha hb hc (q7C hx q) e1)
   ·cases e1
  ·cases e
 ·rename_i x y z hx;split at e
  ·rename_i a b c ha hb hc
   rcases run_ite e with ⟨q,e1⟩ | ⟨_,e1⟩
   ·exact .inl (go3 ha hb hc (q7Y hx q) e1)
   ·cases e1
  ·cases e
 ·exact .inr e
theorem qQM {env:List SV}:∀ {rl:List Nat} {vs:List SV},qF0 rl env=some vs->(rl.map fun t=>(zL (qB env) t).getD PV.unk)=qB vs
 | [],vs,e=>by cases e;simp[qB]
 | i::is,vs,e=>by
   unfold qF0 at e;split at e
   ·rename_i v l hx hl;cases e;rw[zOZ,qQM hl,qW,hx];simp[qB]
   ·cases e
theorem q1Z (l:List SV):(qS3 l).enc=qC2 (qB l):=by
 match l with
 | []=>simp[qS3,qC2,SV.enc,qB]
 | [v]=>simp[qS3,qC2,qB]
 | a::b::l=>simp[qS3,qC2,SV.enc,qB]
omit [Yl] in
theorem q63 {h:SH}{l:List SV}(hl:okL h l):(qS3 l).ok h:=by
 match l,hl with
 | [],hl=>simp[qS3,SV.ok,okL]
 | [v],hl=>simp only[okL] at hl;exact hl.1
 | a::b::l,hl=>simp only[qS3,SV.ok];exact hl
theorem qD8 [Hnd][zFQ P G][zFJ P G](s:zFT P good nat G tab)(ht:qP0 tab T)(hit:q3T P G IT)(ans:Ans):∀ n,qU8 P G (ciN P G T IT ans n)
 | 0=>by
   intro nm f as h K r ho ha e;unfold ciN at e;rcases qYN (nm:=nm) ho e with h1 | h1
   ·exact h1
   ·exact zFQ.ok (P:=P) (G:=G) nm f as h K r ho ha h1
 | n+1=>by
   intro nm f as h K r ho ha e;unfold ciN at e;split at e
   case h_2 =>
    rcases qYN (nm:=nm) ho e with h1 | h1
    ·exact h1
    ·exact zFQ.ok (P:=P) (G:=G) nm f as h K r ho ha h1
   rename_i fn an rs hfn hans;split at e
   case h_2=>cases e
   rename_i c rl hbody hrl;obtain⟨hc,e⟩:=qG e;rw[zOG] at hc;have hal:as.length<=fn.ntmps:=zOQ hc.2
   have hlen:(as++List.replicate (fn.ntmps - as.length) SV.unk).length=fn.ntmps:=by
    rw[zO0,zQ0];omega
   refine q02 hc.1 hfn hbody rfl ?_
   have zE6:qB as++List.replicate (fn.ntmps - (qB as).length) PV.unk=qB (as++List.replicate (fn.ntmps - as.length) .unk):=by
    rw[bJ,rJ,qQ]
   rw[zE6];refine (qU.runs (q1F (Γ:=none) (wd:=q9P) s ht hit (qD8 s ht hit ans n) zDA (fun nm=>qQU ho) c ho (gZ ha (qD1 _ _)) hlen (.refl _) e)).mono ?_;rintro ex pe ph ⟨env',h',rfl,rfl,k1,k2,k3,k0,k4,k5⟩
   have key:∀ {vs ws:List SV},qF0 rl env'=some vs->q8G P fn.resultTypes.toList vs=some ws->(K (qS3 ws) h').run=some r->∃ v,vX P fn (qB env') (qD h'.l)=some v∧∃ v' h2,v=v'.enc∧qD h'.l=qD h2.l∧Post P h h2 v'∧(K v' h2).run=some r:=fun {vs ws} hvs hws hk=>by
    obtain⟨a1,a2⟩:=qTE hws;refine⟨(qS3 ws).enc,?_,qS3 ws,h',rfl,rfl,⟨k0,k2,q63 (a2 _ (zM.2 fun z hz=>zM.1 k1 z (qGS hvs z hz)))⟩,hk⟩;unfold vX;rw[qIO hrl,qQM hvs,q1Z,<-a1];rfl
   cases ex with
   | normal =>
     simp only[zCV] at k5;split at k5
     ·split at k5
      ·exact⟨.inl rfl,key ‹_› ‹_› k5⟩
      ·cases k5
     ·cases k5
   | ret =>
     simp only[zCV] at k5;split at k5
     ·split at k5
      ·exact⟨.inr rfl,key ‹_› ‹_› k5⟩
      ·cases k5
     ·cases k5
   | exit _=>cases k5
   | goto _=>cases k5
def zEM {γ:Type}:vM (some γ) γ:=fun e g _ _=>match e with
 | .normal=>some g
 | .ret=>some g
 | _=>none
def fnI (P:Program)(G:Nat->Bool)(T:yE)(IT:List (FuncId×zFI))(CI:CIT)(an:An)(as ys:List Ty)(yt:List TypeId)(fn:Func)(x:TyL as)(γ:Type)(stp:γ->TyL ys->Option (γ×Bool))(g0:γ):Option γ:=match fn.body with
 | some c=>(ev (Γ:=some γ) (rs:=[]) P G T IT CI ⟨ys,yt,stp⟩ an (rdR P ⟨0,[]⟩ [] [] []) (enR fn.ntmps [] []) ⟨0,[]⟩ c false nm0 g0 (.yv::(qNR as x++List.replicate (fn.ntmps - (as.length+1)) .unk)) ⟨0,[]⟩ zEM).run
 | none=>none
end
noncomputable section
variable [Gc]
variable [Frs]
variable {P:Program}{G:Nat->Bool}{nm:Nm}{tab:uT}{nat:xC}{good:FuncId->Bool}{T:yE}{IT:List (FuncId×zFI)}
theorem q6E [zFJ P G](s:zFT P good nat G tab)(ht:∀ [Yl],qP0 tab T)(hit:∀ [Yl],q3T P G IT){CI:[Yl]->CIT}(hci:∀ [Yl],qU8 P G CI){an:An}{as ys:List Ty}{yt:List TypeId}{f:FuncId}{fn:Func}{F:TyL as->(γ:Type)->(γ->TyL ys->Option (γ×Bool))->γ->Option γ}
 (hent:entered P f=true) (hfn:P.funcs[f]?=some fn) (hc:(Nat.ble (as.length+1) fn.ntmps&&fn.results.toList.isEmpty)=true) (hF:∀ (y:Yl) x γ stp g0,@fnI _ _ y P G T IT CI an as ys yt fn x γ stp g0=F x γ stp g0) [Yl]:q3Q P G f ⟨as,ys,yt,F⟩:=by
 refine⟨hent,fun x γ stp g0 g1 hx w l hst Z H D us hz hb hgl hW hv=>?_⟩
 letI:Yl:=⟨l⟩
 have hx:F x γ stp g0=some g1:=hx;rw[<-hF ⟨l⟩] at hx;unfold fnI at hx;split at hx
 case h_2=>cases hx
 rename_i c hbody;rw[zOG] at hc;have hal:=zOQ hc.1;have hres:fn.results=#[]:=by simpa using hc.2
 have hlen:(SV.yv::(qNR as x++List.replicate (fn.ntmps - (as.length+1)) SV.unk)).length=fn.ntmps:=by
  rw[zO4,zO0,qG8,zQ0];omega
 have hok:okL ⟨0,[]⟩ (SV.yv::(qNR as x++List.replicate (fn.ntmps - (as.length+1)) SV.unk)):=by
  simp only[okL];exact⟨by simp[SV.ok],gZ (qXP as x) (qD1 _ _)⟩
 have hy:YOk P G (Γ:=GV (some γ)) w ⟨ys,yt,stp⟩:=fun g y g' b h=>hst g y g' b h
 have hrun:=q1F (Γ:=some γ) (wd:=w) s ht hit hci hy (fun nm=>qQU rO) c rO hok hlen (.refl _) hx;refine uS.of hfn hbody rfl ?_;have e0:own (fun _=>0) []=fun _=>none:=rfl
 have hp0:Hp P Z H (own (fun _=>0) []):=⟨hz,fun k b ob hk=>(by cases hk),fun k k' b b' ob ob' hk=>(by cases hk),hgl⟩
 have zE6:VRL P Z H (own (fun _=>0) []) (qB (SV.yv::(qNR as x++List.replicate (fn.ntmps - (as.length+1)) SV.unk))) ((.func (.yield l) #[] #[]::us)++List.replicate (fn.ntmps - (Value.func (.yield l) #[] #[]::us).length) undef):=by
  simp only[qB,bJ,qGV,rJ,zQN];refine .cons .yl ?_;have hul:us.length=as.length:=by rw[<-hv.len,<-qGV,qQ,qG8]
  rw[zO4,hul];refine VRL.append hv ⟨by simp,fun i z v h1 h2=>?_⟩;rw[zQ8] at h1;split at h1
  ·cases h1;exact .unk
  ·cases h1
 refine (hrun Z H (fun _=>0) _ D ⟨hp0,zE6,hW,fun b _=>qDI b⟩ hb).mono ?_;rintro o ⟨Z',m',pe,ph,g',D',st,sd,kr,env',h',rfl,rfl,k1,k2,k3,k0,k4,k5⟩
 obtain⟨he,hg⟩:(o.e=.normal∨o.e=.ret)∧g'=g1:=by
  cases hoe:o.e with
  | normal=>rw[hoe] at k5;exact⟨.inl rfl,zPC k5⟩
  | ret=>rw[hoe] at k5;exact⟨.inr rfl,zPC k5⟩
  | exit _=>rw[hoe] at k5;cases k5
  | goto _=>rw[hoe] at k5;cases k5
 subst hg;refine⟨he,.tuple #[],by unfold jX;rw[hres];rfl,Z',D',st.hp.zlt,st.wd,⟨sd.size,sd.base,sd.zle,fun b h1 h2 h3=>sd.keep b h1 h2 h3,fun b h1 h2=>sd.zFZ b h1 h2,fun b h1 _=>absurd h1 (qDI b),sd.zGH⟩⟩
def Lib (P:Program)(good:FuncId->Bool)(G:Nat->Bool)(T:yE)(IT:List (FuncId×zFI)):Prop:=∃ nat tab,zFT P good nat G tab∧(∀ [Yl],qP0 tab T)∧∀ [Yl],q3T P G IT
theorem Lib.zGN (L:Lib P good G T IT)(g:FuncId)(as rs:List Ty)(F:TyL as->Option (TyL rs))(hent:enters P g=true)
 (h:∀ {nat:xC},Setup P good nat G->∀ (x:TyL as) (y:TyL rs) (args:List Value) (H:IH),F x=some y->(∃ Z:Nat->Prop,VRL P Z H (fun _=>none) ((enL as).p x) args∧∀ b,Z b->b < H.size)->H.base<=H.size->GlH H->uS P G g args H fun q=>qZD P (enL as) F (jD rs) x args H q.1 q.2):Lib P good G ((g,⟨as,rs,F⟩)::T) IT:=by
 obtain⟨nat,tab,s,ht,hit⟩:=L
 letI:Yl:=⟨0⟩
 refine⟨_,_,s.zGN (enL as) F (jD rs) hent (qM3 rs) (h s.s),?_,hit⟩;intro _ g' ent hg x;have hg:cond (Nat.beq g' g) (some (⟨as,rs,F⟩:Ent)) (slT g' T)=some ent:=hg;unfold q3M
 cases hb:Nat.beq g' g with
 | true =>
   rw[hb] at hg;cases hg;exact qN7 (a:=enL as) x
 | false =>
   rw[hb] at hg;exact ht g' ent hg x
theorem Lib.add [Hnd][zFQ P G][zFJ P G](L:Lib P good G T IT)(g:FuncId)(ans:Ans)(n:Nat)(an:An)(as rs:List Ty)(fn:Func)(F:TyL as->Option (TyL rs))(hent:enters P g=true)(hfn:P.funcs[g]?=some fn)(hc:qSW as rs fn=true)
 (hF:∀ (y:Yl) x,@fnS _ _ y P G T IT (ciN P G T IT ans n) an as rs fn x=F x):Lib P good G ((g,⟨as,rs,F⟩)::T) IT:=by
 obtain⟨nat,tab,s,ht,hit⟩:=L
 letI:Yl:=⟨0⟩
 have hF2:fnS P G T IT (ciN P G T IT ans n) an as rs fn=F:=funext fun x=>hF ⟨0⟩ x
 have zIQ:=zAQ (an:=an) (as:=as) (rs:=rs) s ht hit (qD8 s ht hit ans n) hfn hc;rw[hF2] at zIQ;refine⟨_,_,s.add (enL as) F (jD rs) hent (qM3 rs) zIQ,?_,hit⟩;intro _ g' ent hg x;have hg:cond (Nat.beq g' g) (some (⟨as,rs,F⟩:Ent)) (slT g' T)=some ent:=hg;unfold q3M
 cases hb:Nat.beq g' g with
 | true =>
   rw[hb] at hg;cases hg;exact qN7 (a:=enL as) x
 | false =>
   rw[hb] at hg;exact ht g' ent hg x
theorem Lib.zM0 [Hnd][zFQ P G][zFJ P G](L:Lib P good G T IT)(f:FuncId)(ans:Ans)(n:Nat)(an:An)(as ys:List Ty)(yt:List TypeId)(fn:Func)(F:TyL as->(γ:Type)->(γ->TyL ys->Option (γ×Bool))->γ->Option γ)(hent:entered P f=true)(hfn:P.funcs[f]?=some fn)(hc:(Nat.ble (as.length+1) fn.ntmps&&fn.results.toList.isEmpty)=true)
 (hF:∀ (y:Yl) x γ stp g0,@fnI _ _ y P G T IT (ciN P G T IT ans n) an as ys yt fn x γ stp g0=F x γ stp g0):Lib P good G T ((f,⟨as,ys,yt,F⟩)::IT):=by
 obtain⟨nat,tab,s,ht,hit⟩:=L;refine⟨nat,tab,s,ht,?_⟩;intro _ f' ent hg;have hg:cond (Nat.beq f' f) (some (⟨as,ys,yt,F⟩:zFI)) (slI f' IT)=some ent:=hg
 cases hb:Nat.beq f' f with
 | true =>
   rw[hb] at hg;cases hg;rw[zOH hb];exact q6E s ht hit (CI:=ciN P G T IT ans n) (qD8 s ht hit ans n) hent hfn hc hF
 | false =>
   rw[hb] at hg;exact hit f' ent hg
theorem Lib.zJH [Hnd][zFQ P G][zFJ P G](L:Lib P good G T IT)(g:FuncId)(ans:Ans)(an:An)(as rs:List Ty)(fn:Func)(F:TyL as->Option (TyL rs))(hent:enters P g=true)(hfn:P.funcs[g]?=some fn)(hc:qSW as rs fn=true)
 (hF:(fun (y:Yl) (x:TyL as)=>@fnS _ _ y P G T IT (ciN P G T IT ans 3) an as rs fn x)=fun (_:Yl) x=>F x):Lib P good G ((g,⟨as,rs,F⟩)::T) IT:=L.add g ans 3 an as rs fn F hent hfn hc fun y x=>congrFun (congrFun hF y) x
theorem Lib.zJX [Hnd][zFQ P G][zFJ P G](L:Lib P good G T IT)(f:FuncId)(ans:Ans)(an:An)(as ys:List Ty)(yt:List TypeId)(fn:Func)(F:TyL as->(γ:Type)->(γ->TyL ys->Option (γ×Bool))->γ->Option γ)(hent:entered P f=true)(hfn:P.funcs[f]?=some fn)(hc:(Nat.ble (as.length+1) fn.ntmps&&fn.results.toList.isEmpty)=true)
 (hF:(fun (y:Yl) (x:TyL as) (γ:Type) (stp:γ->TyL ys->Option (γ×Bool)) (g0:γ)=>@fnI _ _ y P G T IT (ciN P G T IT ans 3) an as ys yt fn x γ stp g0)=fun (_:Yl) x γ stp g0=>F x γ stp g0):Lib P good G T ((f,⟨as,ys,yt,F⟩)::IT) :=
 L.zM0 f ans 3 an as ys yt fn F hent hfn hc fun y x γ stp g0=>congrFun (congrFun (congrFun (congrFun (congrFun hF y) x) γ) stp) g0
end
end Go.Sv
namespace Go.Sv
open Go.Idl
variable [Gc]{P:Program}{G:Nat->Bool}{tab:uT}{nat:xC}{good:FuncId->Bool}
theorem qYF {k:IntKind}:∀ {cs:List FV},cs.all (isK k)=true->∃ xs:List Int,cs=List.flatMap (Ty.int k).cells xs∧xs.length=cs.length
 | [],_=>⟨[],rfl,rfl⟩
 | c::cs,h=>by
   rw[zPY,zOG] at h;obtain⟨xs,h1,h2⟩:=qYF h.2;have hc:=h.1;unfold isK at hc;split at hc
   ·rename_i k' x;have:k=k':=of_decide_eq_true hc;subst this;exact⟨x::xs,by rw[zO8,<-h1];rfl,by rw[zO4,zO4,h2]⟩
   ·cases hc
theorem zBC [Frs] (s:zFT P good nat G tab) (h:∀ g el,Frs.fr g=some el->enters P g=true∧qNX P g=false∧szT P el=some 1∧tab g [.f (.l el 0 [])]=some (.f (.l el 0 [])) ∧
 ∀ (xs:List Int),xs≠[]->Nat.ble xs.length 1048576=true->qDE P G nm0 g [.f (.l el xs.length (List.flatMap (Ty.int Frs.fk).cells xs))] [] fun v p=>∃ k0,v=.own k0 xs.length 0 xs.length∧qA k0 p=some ⟨el,true,(List.flatMap (Ty.int Frs.fk).cells xs).map .f⟩):zFJ P G:=by
 refine⟨fun g el hg=>?_⟩;obtain⟨h1,hx,hsz,h2,h3⟩:=h g el hg;refine⟨h1,fun n cs hfo Z H zFC hp hb hv=>?_⟩;unfold qLF at hfo;rw[hsz] at hfo;simp only[zOG] at hfo;obtain⟨f1,f2,_,f3⟩:=hfo;obtain⟨xs,rfl,hlen⟩:=qYF f3
 have hn:n=xs.length:=by
  have:=zOH f1;omega
 subst hn;by_cases hxs:xs=[]
 ·subst hxs;obtain⟨_,_,k,hk,hc⟩:=s.t g _ _ h2;intro args' f w hR hG ha;refine s.s.spec g k hk zFC args' H f w _ hR hG ha (hc Z H zFC hv hp.zlt hb hp.gl _ fun v H' Z' k1 k2 k3 k4 k5=>?_);have hp2:Hp P Z' H' (own (fun _=>0) []):=hp.old k1 k2 k3 k4;exact⟨Z',fun _=>0,.f (.l el 0 []),[],hp2,k5,.old k1 k2 k4,.inl ⟨rfl,rfl⟩⟩
 ·rcases h3 xs hxs f2 with ⟨e,_⟩ | ⟨_,hc⟩
  ·rw[hx] at e;cases e
  ·refine (hc Z H (fun _=>0) zFC hp hb hv).mono ?_;rintro r ⟨Z',m',pv,ph',a,b,c,d,k0,rfl,e⟩;refine⟨Z',m',_,ph',a,b,c,.inr ⟨fun h=>hxs (zQE h),k0,rfl,e⟩⟩
end Go.Sv
namespace Go.Sv
open Go.Idl
noncomputable section
variable [Gc]
variable [Frs]
variable [Yl]
variable {P:Program}{G:Nat->Bool}{nm:Nm}{tab:uT}{nat:xC}{good:FuncId->Bool}{T:yE}{IT:List (FuncId×zFI)}{R:Type}{r:R}
def qY8:SV->SV->Bool
 | .ref k o w,.ref k' o' w'=>Nat.beq k k'&&(Nat.beq o o'&&Nat.beq w w')
 | _,_=>false
def qP8:List SV->List SV->Bool
 | [],[]=>true
 | x::l,y::m=>qY8 x y&&qP8 l m
 | _,_=>false
def qV7:SV->SV->Bool
 | .fn f [] b,.fn g [] d=>Nat.beq f g&&qP8 b d
 | x,y=>qY8 x y
omit [Yl] in
theorem qO9 {x y:SV}(e:qY8 x y=true):x=y:=by
 unfold qY8 at e;split at e
 ·simp only[zOG] at e;rw[zOH e.1,zOH e.2.1,zOH e.2.2]
 ·cases e
omit [Yl] in
theorem qJU:∀ {x y:List SV},qP8 x y=true->x=y
 | [],[],_=>rfl
 | a::x,b::y,e=>by
   simp only[qP8,zOG] at e;rw[qO9 e.1,qJU e.2]
 | [],_::_,e=>by cases e
 | _::_,[],e=>by cases e
omit [Yl] in
theorem qV6 {x y:SV}(e:qV7 x y=true):x=y:=by
 unfold qV7 at e;split at e
 ·rw[zOG] at e;rw[zOH e.1,qJU e.2]
 ·exact qO9 e
def q6U (d:List Nat):Nat->List SV->List SV->Bool
 | _,[],[]=>true
 | i,x::l,y::m=>(mX i d||qV7 x y)&&q6U d (i+1) l m
 | _,_,_=>false
omit [Yl] in
theorem qND {d:List Nat}:∀ {i:Nat} {l m:List SV},q6U d i l m=true->l.length=m.length∧∀ j,(j+i) ∉ d->zL l j=zL m j
 | _,[],[],_=>⟨rfl,fun _ _=>rfl⟩
 | i,x::l,y::m,e=>by
   simp only[q6U,zOG,zPL] at e;obtain⟨a1,a2⟩:=qND e.2;refine⟨by simp[a1],fun j hj=>?_⟩
   cases j with
   | zero =>
     rcases e.1 with q | q
     ·exact absurd (xK.1 q) (by simpa using hj)
     ·rw[qV6 q];rfl
   | succ j=>exact a2 j (by rw[zQG,zRB 1 i] at hj;exact hj)
 | _,[],_::_,e=>by cases e
 | _,_::_,[],e=>by cases e
def qHY (ls:List Nat):List (Nat×SO)->List (Nat×SO)
 | []=>[]
 | p::l=>cond (mX p.1 ls) (p::qHY ls l) (qHY ls l)
omit [Yl] in
theorem qCP {ls:List Nat}{k:Nat}(hk:k∈ls):∀ {l:List (Nat×SO)},slk k (qHY ls l)=slk k l
 | []=>rfl
 | (j,p)::l=>by
   unfold qHY;by_cases hjk:k=j
   ·subst hjk;simp only[xK.2 hk,cond_true];simp[slk]
   ·have hb:(k==j)=false:=by simpa using hjk
    cases hm:mX j ls with
    | true=>simp[slk,hb,qCP hk (l:=l)]
    | false=>simp[slk,hb,qCP hk (l:=l)]
omit [Yl] in
theorem qON:∀ {is:List Nat} {m r1 r2:List SV},(dI is m r1).2=(dI is m r2).2
 | [],m,r1,r2=>rfl
 | i::is,c::m,r1,r2=>qON (is:=is) (m:=m)
 | _::_,[],_,_=>rfl
omit [Yl] in
theorem bA {ls:List Nat}{k:Nat}{o:SO}:∀ {l:List (Nat×SO)},slk k (qHY ls l)=some o->k∈ls∧slk k l=some o
 | [],h=>by cases h
 | (j,p)::l,h=>by
   unfold qHY at h;by_cases hjk:k=j
   ·subst hjk
    cases hm:mX k ls with
    | true =>
      simp only[hm,cond_true] at h;refine⟨xK.1 hm,?_⟩;simpa [slk] using h
    | false =>
      simp only[hm,cond_false] at h;have:=(bA h).1;rw[xK.2 this] at hm;cases hm
   ·have hb:(k==j)=false:=by simpa using hjk
    have h2:slk k (qHY ls l)=some o:=by
     cases hm:mX j ls with
     | true=>simpa [hm,slk,hb] using h
     | false=>simpa [hm] using h
    obtain⟨a,b⟩:=bA h2;exact⟨a,by simpa [slk,hb] using b⟩
def SH.only (h:SH)(ls:List Nat):SH:=⟨h.next,qHY ls h.l⟩
omit [Yl] in
theorem q09 {h:SH}{ls:List Nat}(a:OkH P h):Keep h (h.only ls)∧OkH P (h.only ls):=by
 have hl:∀ j ob,slk j (h.only ls).l=some ob->slk j h.l=some ob:=fun j ob hj=>(bA hj).2
 have hkp:Keep h (h.only ls):=⟨zOI _,fun j ob hj _=>hl j ob hj,fun j el gr g w t xs hj _=>⟨w,xs,hl _ _ hj,rfl⟩⟩
 exact⟨hkp,⟨fun j ob hj=>a.ver j ob (hl j ob hj),fun j el w l hj=>qI hkp (a.cells j el w l (hl _ _ hj)),fun j el gr g w t xs hj=>a.list j el gr g w t xs (hl _ _ hj)⟩⟩
structure RT where
 g:FuncId
 nm:Nm
 as:List SV
 bx:List (Nat×TypeId)
 cx:List (Nat×TypeId×List SV)
 d:List Nat
 os:List (Nat×Bool)
 b:List (Nat×List (Option Nat))
 ts:List Ty
 fz:List (Nat×TypeId)
def RT.sh (q:RT):Sh:=⟨q.d,q.os.map (·.1),[],[],[],q.b,[]⟩
def qYY:List (Nat×TypeId)->List (Nat×SO)
 | []=>[]
 | p::l=>(p.1,.cells p.2 0 [])::qYY l
def q8J (bs:List (Nat×SO)):List (Nat×TypeId×List SV)->List (Nat×SO)
 | []=>bs
 | p::l=>(p.1,.cells p.2.1 0 p.2.2)::q8J bs l
def RT.hT (q:RT):SH:=⟨1,q8J (qYY q.bx) q.cx⟩
def zBX:SV->Bool
 | .ref _ _ _=>true
 | .fn _ [] b=>b.all fun x=>match x with
   | .ref _ _ _=>true
   | _=>false
 | _=>false
omit [Yl] in
theorem qXR {h:SH}{x:SV}(e:zBX x=true):x.ok h:=by
 unfold zBX at e;split at e
 ·simp[SV.ok]
 ·rename_i f b;simp only[SV.ok,okL,true_and];refine zM.2 fun y hy=>?_
  have:=zOJ.1 e y hy;split at this
  ·simp[SV.ok]
  ·cases this
 ·cases e
def RT.chk (q:RT):Bool:=(q.as.all fun x=>zBX x||(match x with
 | .unk=>true
 | _=>false))&&q.cx.all fun p=>p.2.2.all zBX
omit [Yl] in
theorem qJB {k:Nat}{o:SO}:∀ {l:List (Nat×TypeId)},slk k (qYY l)=some o->∃ el,o=.cells el 0 []
 | [],h=>by cases h
 | p::l,h=>by
   have h:cond (k==p.1) (some (SO.cells p.2 0 [])) (slk k (qYY l))=some o:=h
   cases hk:k==p.1 with
   | true=>rw[hk] at h;cases h;exact⟨_,rfl⟩
   | false=>rw[hk] at h;exact qJB h
omit [Yl] in
theorem nZ {k:Nat}{o:SO}{bs:List (Nat×TypeId)}:∀ {l:List (Nat×TypeId×List SV)},slk k (q8J (qYY bs) l)=some o->(∃ el,o=.cells el 0 [])∨∃ p∈l,o=.cells p.2.1 0 p.2.2
 | [],h=>.inl (qJB h)
 | p::l,h=>by
   have h:cond (k==p.1) (some (SO.cells p.2.1 0 p.2.2)) (slk k (q8J (qYY bs) l))=some o:=h
   cases hk:k==p.1 with
   | true=>rw[hk] at h;cases h;exact .inr ⟨p,zON,rfl⟩
   | false =>
     rw[hk] at h
     rcases nZ h with q | ⟨p',q,e⟩
     ·exact .inl q
     ·exact .inr ⟨p',zOK _ q,e⟩
omit [Yl] in
theorem RT.ok {q:RT}(h:q.chk=true):OkH P q.hT∧okL q.hT q.as:=by
 unfold RT.chk at h;rw[zOG] at h;refine⟨⟨fun k ob hk=>?_,fun k el w l hk=>?_,fun k el gr g w t xs hk=>?_⟩,zM.2 fun x hx=>?_⟩
 ·rcases nZ hk with ⟨el,rfl⟩ | ⟨p,_,rfl⟩ <;> exact Nat.zero_lt_one
 ·rcases nZ hk with ⟨el,e⟩ | ⟨p,hp,e⟩
  ·cases e;simp[okL]
  ·cases e;exact zM.2 fun x hx=>qXR (zOJ.1 (zOJ.1 h.2 p hp) x hx)
 ·rcases nZ hk with ⟨el,e⟩ | ⟨p,_,e⟩ <;> cases e
 ·have:=zOJ.1 h.1 x hx;rw[zPL] at this;rcases this with e | e
  ·exact qXR e
  ·split at e
   ·simp[SV.ok]
   ·cases e
def q8K (cx:List (Nat×TypeId×List SV))(h:SH):Bool:=cx.all fun p=>match slk p.1 h.l with
 | some (.cells el _ l)=>Nat.beq el p.2.1&&(Nat.beq l.length p.2.2.length&&q6U [] 0 l p.2.2)
 | _=>false
omit [Yl] in
theorem q67 {l m:List SV}(e:q6U [] 0 l m=true):l=m:=by
 obtain⟨a,b⟩:=qND e;apply zP2;intro i;have:=b i (by simp)
 rwa [qF,qF] at this
def RT.rd (q:RT)(h1:SH)(env:List SV)(h:SH):Option (TyL q.ts):=match qF0 q.d env,qS1 q.sh.o h,qY1 q.b h with
 | some a,some b,some c=>(match tK q.ts (a++(b++c)) with
   | some s=>cond (qS2 q.os h&&(mE (q.b.map (·.1)) q.b h1 h&&q8K q.cx h)) (some s) none
   | none=>none)
 | _,_,_=>none
def RT.bs (q:RT):List Nat:=q.b.map (·.1)++q.cx.map (·.1)
def RT.put (P:Program)(q:RT)(env:List SV)(h:SH)(s:TyL q.ts):Option (List SV×SH):=mkS P q.d q.sh q.ts q.os env h s
def RT.call (q:RT)(nm:Nm)(as:List SV)(h:SH):Option (TyL q.ts):=cond (q6U q.d 0 as q.as&&((q.os.all fun p=>nm.p p.1||!q.nm.p p.1)&&(q.bs.all fun k=>!q.nm.p k))) (q.rd q.hT as h) none
def recC (P:Program)(q:RT)(F:TyL q.ts->Option (TyL q.ts))(CI:CIT):CIT:=fun R nm f as h K=>cond (Nat.beq f q.g)
 (match q.call nm as h with
   | some s=>.bind (F s) fun s'=>goS (q.put P as (h.only q.bs) s') fun _ hh=>K (.tup []) hh
   | none=>.fail)
 (CI R nm f as h K)
def zEK (P:Program)(q:RT):vM none (TyL q.ts):=fun e _ env h=>match e with
 | .normal=>fzv P q.nm q.fz env h fun env h=>q.rd q.hT env h
 | .ret=>fzv P q.nm q.fz env h fun env h=>q.rd q.hT env h
 | _=>none
def zDE (P:Program)(G:Nat->Bool)(T:yE)(IT:List (FuncId×zFI))(q:RT)(CI:CIT)(an:An)(fn:Func)(s:TyL q.ts):Option (TyL q.ts):=match fn.body,q.put P q.as q.hT s with
 | some c,some p=>(ev (Γ:=none) P G T IT CI yi0 an (rdR P ⟨0,[]⟩ fn.resultTypes.toList [] []) (enR fn.ntmps [] []) ⟨0,[]⟩ c false q.nm () (p.1++List.replicate (fn.ntmps - p.1.length) .unk) p.2 (zEK P q)).run
 | _,_=>none
def qWQ (P:Program)(q:RT)(fn:Func):Bool:=enters P q.g&&(q.chk&&(Nat.ble q.as.length fn.ntmps&&fn.results.toList.isEmpty))
theorem RT.zIR {q:RT}{h1:SH}{env:List SV}{h:SH}{s:TyL q.ts}(e:q.rd h1 env h=some s) :
 ∃ a b c,qF0 q.d env=some a∧qS1 q.sh.o h=some b∧qY1 q.b h=some c∧tK q.ts (a++(b++c))=some s∧qS2 q.os h=true∧mE (q.b.map (·.1)) q.b h1 h=true∧q8K q.cx h=true:=by
 unfold RT.rd at e;split at e
 case h_2=>cases e
 rename_i a b c ha hb hc;split at e
 case h_2=>cases e
 rename_i s' hs
 cases hx:(qS2 q.os h&&(mE (q.b.map (·.1)) q.b h1 h&&q8K q.cx h)) with
 | false=>rw[hx] at e;cases e
 | true =>
   rw[hx] at e;cases e;simp only[zOG] at hx;exact⟨a,b,c,ha,hb,hc,hs,hx.1,hx.2.1,hx.2.2⟩
omit [Yl] in
theorem qNV {cx:List (Nat×TypeId×List SV)}{h:SH}(e:q8K cx h=true){p:Nat×TypeId×List SV}(hp:p∈cx):∃ w,slk p.1 h.l=some (.cells p.2.1 w p.2.2):=by
 unfold q8K at e;have:=zOJ.1 e p hp;split at this
 ·rename_i el w l hl;simp only[zOG] at this;rw[hl,zOH this.1,q67 this.2.2];exact⟨w,rfl⟩
 ·cases this
theorem qZX {q:RT}{h:SH}(e:q8K q.cx h=true){k:Nat}{o:SO}(hk:k ∉ q.b.map (·.1))(hq:∀ p∈q.bx,p.1∈q.b.map (·.1))(hl:slk k q.hT.l=some o):qA k (qD h.l)=some o.enc:=by
 have go:∀ {l:List (Nat×TypeId×List SV)},(∀ p∈l,p∈q.cx)->slk k (q8J (qYY q.bx) l)=some o->qA k (qD h.l)=some o.enc:=fun {l}=>by
  induction l with
  | nil =>
    intro _ hl
    have gb:∀ {m:List (Nat×TypeId)},(∀ p∈m,p∈q.bx)->slk k (qYY m)=some o->False:=fun {m}=>by
     induction m with
     | nil=>intro _ h;cases h
     | cons p m ih =>
       intro hm h;have h:cond (k==p.1) (some (SO.cells p.2 0 [])) (slk k (qYY m))=some o:=h
       cases hb:k==p.1 with
       | true =>
         have:k=p.1:=by simpa using hb
         exact hk (by rw[this];exact hq p (hm p zON))
       | false=>rw[hb] at h;exact ih (fun x hx=>hm x (zOK _ hx)) h
    exact (gb (fun _ h=>h) hl).elim
  | cons p l ih =>
    intro hm h2;have h2:cond (k==p.1) (some (SO.cells p.2.1 0 p.2.2)) (slk k (q8J (qYY q.bx) l))=some o:=h2
    cases hb:k==p.1 with
    | true =>
      rw[hb] at h2;cases h2;have:k=p.1:=by simpa using hb
      subst this;obtain⟨w,hw⟩:=qNV e (hm p zON);rw[zP hw];rfl
    | false=>rw[hb] at h2;exact ih (fun x hx=>hm x (zOK _ hx)) h2
 exact go (fun _ h=>h) hl
def RT.zLM (q:RT):Bool:=q.bx.all fun p=>mX p.1 (q.b.map (·.1))
theorem qU4 [zFJ P G](s:zFT P good nat G tab)(ht:qP0 tab T)(hit:q3T P G IT){q:RT}{CI' CI:CIT}(hci:qU8 P G CI)(zM1:qU8 P G CI'){an:An}{fn:Func}(hfn:P.funcs[q.g]?=some fn)(hc:qWQ P q fn=true)(hbx:q.zLM=true){F:TyL q.ts->Option (TyL q.ts)}
 (hF:∀ x y,F x=some y->zDE P G T IT q CI' an fn x=some y):qU8 P G (recC P q F CI):=by
 intro R nm f as h K r ho ha e;unfold recC at e
 cases hf:Nat.beq f q.g with
 | false=>rw[hf] at e;exact hci nm f as h K r ho ha e
 | true =>
 rw[hf] at e;have:=zOH hf;subst this;simp only[cond_true] at e;split at e
 case h_2=>cases e
 rename_i x hcall;obtain⟨y,hy,e⟩:=run_bind e;obtain⟨e2,hh,zLN,hK⟩:=o6 e;unfold RT.call at hcall
 cases hck:(q6U q.d 0 as q.as&&((q.os.all fun p=>nm.p p.1||!q.nm.p p.1)&&(q.bs.all fun k=>!q.nm.p k))) with
 | false=>rw[hck] at hcall;cases hcall
 | true =>
 rw[hck] at hcall;simp only[zOG] at hck;obtain⟨has,hos,hbs⟩:=hck;obtain⟨a,b,c,r1,r2,r3,r4,r5,r6,r7⟩:=RT.zIR hcall;have hrun:=hF x y hy;unfold zDE at hrun;split at hrun
 case h_2=>cases hrun
 rename_i code p hbody hmk;obtain⟨ec,hcn⟩:=p;unfold qWQ at hc;simp only[zOG] at hc;obtain⟨hent,hqc,hlen,hres⟩:=hc;obtain⟨hoT,haT⟩:=RT.ok (P:=P) hqc;have hq:∀ p∈q.bx,p.1∈q.b.map (·.1):=fun p hp=>xK.1 (zOJ.1 hbx p hp)
 obtain⟨l1,l2⟩:=qND has;have hbl:WkP (qB as) (qB (blank q.d 0 q.as)):=tY l1 fun i hi=>by rw[qW,qW,l2 i hi]
 obtain⟨wp,sp⟩:=q1T (sh:=q.sh) ho hoT ha r1 r2 r3 r4 hmk rfl r5 rfl r6 (fun k o _ hk hl=>qZX r7 hk hq hl) hbl;obtain⟨_,m2,m3,m4,_,_⟩:=uO hoT haT hmk;have hal:ec.length<=fn.ntmps:=by rw[m4];exact zOQ hlen
 have hl:(ec++List.replicate (fn.ntmps - ec.length) SV.unk).length=fn.ntmps:=by
  rw[zO0,zQ0];omega
 have hrr:fn.results.toList=[]:=by
  cases hx:fn.results.toList with
  | nil=>rfl
  | cons _ _=>rw[hx] at hres;cases hres
 have hev:=qU.runs (q1F (Γ:=none) (wd:=q9P) (an:=an) (rdv:=rdR P ⟨0,[]⟩ fn.resultTypes.toList [] []) (en:=enR fn.ntmps [] []) (hb:=⟨0,[]⟩) (N:=fn.ntmps) s ht hit zM1 zDA (fun nm=>qQU (rs:=[]) (rv:=[]) rO) code m2 (gZ m3 (qD1 _ _)) hl ⟨zQD _,fun k ob _ h=>absurd h (zPM _),fun k el gr g w t xs _ h=>absurd h (zPM _)⟩ hrun);refine .inr ⟨hent,fun Z H m zFC hp zM2 hv=>?_⟩;refine uS.of hfn hbody rfl ?_;obtain⟨Z1,mm,w1,w2,w3,w4⟩:=Wk.drop (P:=P) (nm:=q.nm) wp sp Z H m zFC hp hv;have hla:zFC.length=ec.length:=by rw[<-w2.len,qQ]
 have zE6:VRL P Z1 H (own mm (qD hcn.l)) (qB (ec++List.replicate (fn.ntmps - ec.length) .unk)) (zFC++List.replicate (fn.ntmps - zFC.length) undef):=by
  rw[bJ,rJ,hla];refine VRL.append w2 ⟨by simp,fun i z v h1 h2=>?_⟩;rw[zQ8] at h1;split at h1
  ·cases h1;exact .unk
  ·cases h1
 refine (hev Z1 H mm _ w1 zM2 zE6).mono ?_;rintro o ⟨Z2,m',zFH,ph2,a1,b1,c1,d1,env',h',rfl,rfl,k1,k2,k3,k0,k4,k5⟩
 have hpr:vX P fn (qB env') (qD h'.l)=some (.tup []):=by
  unfold vX;rw[hrr];cases hx:fn.resultTypes.toList <;> rfl
 obtain⟨u,v1,v2⟩:=mH a1 b1 hpr
 obtain⟨he,zM3⟩:(o.e=.normal∨o.e=.ret)∧(fzv P q.nm q.fz env' h' fun env h=>(q.rd q.hT env h:zEY (TyL q.ts))).run=some y:=by
  cases ho:o.e with
  | normal=>rw[ho] at k5;exact⟨.inl rfl,k5⟩
  | ret=>rw[ho] at k5;exact⟨.inr rfl,k5⟩
  | exit _=>rw[ho] at k5;cases k5
  | goto _=>rw[ho] at k5;cases k5
 obtain⟨zE4,h1,wz,zGE,hrd⟩:=qP6 (nm:=q.nm) k2 k1 zM3;have hrd:q.rd q.hT zE4 h1=some y:=hrd;have ho1:=zGE.2.1;obtain⟨Z3,m3',x1,x2,x3,x4⟩:=wz Z2 o.H m' o.env a1 b1;obtain⟨a',b',c',s1,s2,s3,s4,s5,s6,s7⟩:=RT.zIR hrd;obtain⟨ko,kok⟩:=q09 (ls:=q.bs) ho;have hde:=aK s4
 -- the state behind it,where the call stands
 have hsb:mE (q.b.map (·.1)) q.b (h.only q.bs) h1=true:=by
  unfold mE at s6 r6 ⊢;rw[zOJ] at s6 r6 ⊢;intro p hp;have h1:=s6 p hp;have h2:=r6 p hp;have hk:slk p.1 (h.only q.bs).l=slk p.1 h.l:=qCP (zPV _ (zR2 hp));rw[zOG,zOG] at h1 h2 ⊢;refine⟨h1.1,h1.2.1,?_⟩;have g1:=h1.2.2;have g2:=h2.2.2;rw[hk];split at g1
  ·rename_i e1 _ _ e3 _ l3 q1 q2;rw[q1] at g2;split at g2
   ·rename_i e4 _ _ e5 _ l5 q3 q4;cases q3;rw[q4,q2];simp only;rw[zOG] at g1 g2 ⊢;rw[<-zOH g2.1];exact g1
   ·cases g2
  ·cases g1
 have hw2:qB (dI q.d (svL q.ts y) (blank q.d 0 as)).2=qB (b'++c'):=by
  rw[qON (r2:=zE4)];exact (qLK (m:=svL q.ts y) s1 hde (WkP.refl _)).2
 obtain⟨n1,n2,n3,_,_,n6⟩:=uO kok (qI ko ha) zLN
 obtain⟨_,_,hsub⟩:=qOE (sh:=q.sh) ho1 kok s2 s3 hw2 zLN rfl s5 hsb (fun k o hk1 hk2 hl=>by
  obtain⟨t1,t2⟩:=bA hl;rcases zPJ.1 t1 with q1 | q1
  ·exact absurd q1 hk2
  ·obtain⟨p,hp,rfl⟩:=zO6.1 q1;obtain⟨w5,u1⟩:=qNV r7 hp;obtain⟨w6,u2⟩:=qNV s7 hp;rw[u1] at t2;cases t2
   rw[zP u2];rfl)
 have hfz:=Fz.drop x1 (qB5 hsub);have v3:VR P Z3 o.H (own m3' (qD hh.l)) (.tup []) u:=qE4 v2 rfl _ _ _;refine⟨he,u,v1,Z3,m3',.tup [],qD hh.l,hfz.hp,v3,w3.trans (c1.trans (x3.trans hfz.step)),?_,.tup [],hh,by simp[SV.enc,qB],rfl,⟨ko.trans n1,n2,by simp[SV.ok,okL]⟩,hK⟩;have hkr:=w4.trans (d1.trans (x4.trans (hfz.kr (inP q.nm))));intro k b0 ob0 hk;rcases hkr k b0 ob0 hk with h1 | h1 | h1
 ·exact .inl h1
 ·exact .inr (.inl h1)
 ·refine .inr (.inr ?_);obtain⟨hk1,_⟩:=vK hk;rw[vC] at hk1;obtain⟨o2,hk2,_⟩:=zOR.1 hk1;have h1:q.nm.p k=true:=h1
  have hnb:k ∉ q.bs:=fun hm=>by
   have:=zOJ.1 hbs k hm;rw[h1] at this;cases this
  by_cases hko:k∈q.os.map (·.1)
  ·obtain⟨p,hp,rfl⟩:=zO6.1 hko;have:=zOJ.1 hos p hp;rw[zPL,h1] at this;rcases this with q | q
   ·exact q
   ·cases q
  ·have hkb:k ∉ q.sh.b.map (·.1):=fun hm=>hnb (zPV _ hm)
   rw[n6 k hko hkb] at hk2;exact absurd (bA hk2).1 hnb
def qE7 {as:List Ty}(S:(TyL as->Option (TyL as))->TyL as->Option (TyL as)):Nat->TyL as->Option (TyL as)
 | 0,_=>none
 | n+1,x=>S (qE7 S n) x
end
end Go.Sv
namespace Go.Sv
open Go.Idl
noncomputable section
variable [Gc]
variable [Frs]
variable {P:Program}{G:Nat->Bool}{good:FuncId->Bool}{T:yE}{IT:List (FuncId×zFI)}
abbrev qSZ [h:Hnd](P:Program)(q:RT)(F:TyL q.ts->Option (TyL q.ts)):Hnd:=⟨recC P q F h.ci⟩
def zEL [Hnd][Yl](P:Program)(G:Nat->Bool)(T:yE)(IT:List (FuncId×zFI))(q:RT)(ans:Ans)(an:An)(fn:Func)(F:TyL q.ts->Option (TyL q.ts))(s:TyL q.ts):Option (TyL q.ts) :=
 zDE P G T IT q (@ciN _ _ _ (qSZ P q F) P G T IT ans 3) an fn s
theorem qQW [Hnd][zFQ P G][zFJ P G](L:Lib P good G T IT)(q:RT)(ans:Ans)(an:An)(fn:Func)(S:(TyL q.ts->Option (TyL q.ts))->TyL q.ts->Option (TyL q.ts))(hfn:P.funcs[q.g]?=some fn)(hc:(qWQ P q fn&&q.zLM)=true)
 (hS:(fun (y:Yl) F x=>@zEL _ _ _ y P G T IT q ans an fn F x)=fun (_:Yl) F x=>S F x):∀ n,@zFQ _ P G (qSZ P q (qE7 S n))
 | 0=>by
   refine @zFQ.mk _ P G (qSZ P q (qE7 S 0)) fun {y}=>?_
   obtain⟨nat,tab,s,ht,hit⟩:=L;rw[zOG] at hc;exact qU4 s ht hit (CI':=Hnd.ci) zFQ.ok zFQ.ok (an:=an) hfn hc.1 hc.2 fun x y h=>by cases h
 | n+1=>by
   have ih:=qQW L q ans an fn S hfn hc hS n;refine @zFQ.mk _ P G (qSZ P q (qE7 S (n+1))) fun {y}=>?_
   obtain⟨nat,tab,s,ht,hit⟩:=L;rw[zOG] at hc;refine qU4 s ht hit (CI':=@ciN _ _ _ (qSZ P q (qE7 S n)) P G T IT ans 3) zFQ.ok (@qD8 _ _ _ _ _ _ _ _ _ _ (qSZ P q (qE7 S n)) ih _ s ht hit ans 3) (an:=an) hfn hc.1 hc.2 fun x z h=>?_
   have h2:=congrFun (congrFun (congrFun hS y) (qE7 S n)) x;rw[<-h];exact h2
end
end Go.Sv
