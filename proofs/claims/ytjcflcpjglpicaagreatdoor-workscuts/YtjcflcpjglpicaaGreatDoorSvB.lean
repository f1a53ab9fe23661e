/- A symbolic run, part two. Conditions: none. -/
import Derived.Test.YtjcflcpjglpicaaGreatDoorSvA
set_option linter.all false
namespace Go.Sv
open Go.Idl
variable {c i s:Nat}{env:List SV}{h:SH}{ob:PO}{ph ph':PHp}{ty:TypeId}{v:SV}{x y:PV}
noncomputable section
variable [Gc]
variable [Yl]
variable {P:Program}{R:Type}{r:R}{G:Nat->Bool}{nm:Nm}{rd:Bool}
def Wk (P:Program)(nm:Nm)(pe:List PV)(ph:PHp)(pe':List PV)(ph':PHp):Prop :=
 ∀ (Z:Nat->Prop) (H:IH) (m:Nat->Nat) (vs:List Value),Hp P Z H (own m ph)->VRL P Z H (own m ph) pe vs ->
  ∃ Z' m',Hp P Z' H (own m' ph')∧VRL P Z' H (own m' ph') pe' vs∧Step Z H (own m ph) Z' H (own m' ph')∧KR (inP nm) (own m ph) (own m' ph')
omit [Yl] in
theorem Wk.refl (pe:List PV)(ph:PHp):Wk P nm pe ph pe ph:=fun Z H m vs hp hv=>⟨Z,m,hp,hv,.refl _ _ _,.refl _ _⟩
omit [Yl] in
theorem Wk.trans {a b c:List PV}{p q s:PHp}(x:Wk P nm a p b q)(y:Wk P nm b q c s):Wk P nm a p c s:=fun Z H m vs hp hv=>by
 obtain⟨Z1,m1,a1,a2,a3,a4⟩:=x Z H m vs hp hv;obtain⟨Z2,m2,b1,b2,b3,b4⟩:=y Z1 H m1 vs a1 a2;exact⟨Z2,m2,b1,b2,a3.trans b3,a4.trans b4⟩
omit [Yl] in
theorem Wk.drop {a b:List PV}{p q:PHp}(hw:WkP a b)(hs:oU q p):Wk P nm a p b q:=fun Z H m vs hp hv=>by
 have hf:=Fz.drop hp hs;exact⟨Z,m,hf.hp,hw.rel (hf.vrl hv),hf.step,hf.kr _⟩
omit [Yl] in
theorem qR8:∀ {l m:List PV},l.length=m.length->(∀ i,zJ m i=zJ l i∨zJ m i=some .unk)->WkP l m
 | [],[],_,_=>.nil
 | [],_::_,h,_=>by cases h
 | _::_,[],h,_=>by cases h
 | x::l,y::m,h,hi=>by
   have ih:=qR8 (l:=l) (m:=m) (by simpa using h) fun i=>hi (i+1)
   rcases hi 0 with q | q
   ·have q:some y=some x:=q;cases q;exact .same ih
   ·have q:some y=some PV.unk:=q;cases q;exact .any ih
def fzs (P:Program):List (Nat×TypeId)->List SV->SH->(List SV->SH->zF6 R)->zF6 R
 | [],env,h,K=>K env h
 | (i,ty)::l,env,h,K=>match zJ env i,qDK P 8 ty with
   | some v,some t=>(match q67 P ty t v h with
     | some (x,h')=>fzs P l (yS env i (t.sv x)) h' K
     | none=>.fail)
   | _,_=>.fail
def xQ (P:Program)(w:List Nat)(env:List SV)(h:SH)(env':List SV)(h':SH):Prop :=
 okL h' env'∧OkH P h'∧Keep h h'∧(∀ i,i ∉ w->zJ (qB env') i=zJ (qB env) i)∧env'.length=env.length
theorem xQ.trans {w w2:List Nat}{env zGC zGN:List SV}{h h1 h2:SH}(a:xQ P w env h zGC h1)(b:xQ P w2 zGC h1 zGN h2):xQ P (w++w2) env h zGN h2 :=
 ⟨b.1,b.2.1,a.2.2.1.trans b.2.2.1,fun i hi=>by
   rw[zQR,not_or] at hi
   exact (b.2.2.2.1 i hi.2).trans (a.2.2.2.1 i hi.1),b.2.2.2.2.trans a.2.2.2.2⟩
theorem xQ.refl {env:List SV}{h:SH}(ho:OkH P h)(he:okL h env):xQ P [] env h env h:=⟨he,ho,.refl _,fun _ _=>rfl,rfl⟩
theorem xQ.up {w w2:List Nat}{zGC:List SV}{h1:SH}(a:xQ P w env h zGC h1)(hw:∀ i∈w,i∈w2):xQ P w2 env h zGC h1 :=
 ⟨a.1,a.2.1,a.2.2.1,fun i hi=>a.2.2.2.1 i fun q=>hi (hw i q),a.2.2.2.2⟩
theorem rH {j:Nat}(h:i≠j):zJ (qB (yS env i v)) j=zJ (qB env) j:=by
 rw[kH,qW,qF,qF,zQG,if_neg h]
theorem zCD {h':SH}(hv:zJ env i=some v)(hf:fzP P (qC h.l) v.enc=some (y,qC h'.l)):Wk P nm (qB env) (qC h.l) (yS (qB env) i (rt1 P ty y)) (qC h'.l):=by
 intro Z H m vs hp hr
 have hi:(qB env)[i]?=some v.enc:=by
  rw[qF] at hv;rw[zH,zP0,hv];rfl
 obtain⟨u,hu,hr2⟩:=hr.get hi;obtain⟨Z',h1,h2⟩:=qKB hp hr2 hf;exact⟨Z',m,h1.hp,(h1.vrl hr).slot hu (qFL (bX h2 (qPL hf))),h1.step,h1.kr _⟩
theorem q4L:∀ {l:List (Nat×TypeId)} {env:List SV} {h:SH} {K:List SV->SH->zF6 R},OkH P h->okL h env->(fzs P l env h K).run=some r ->
 ∃ env' h',Wk P nm (qB env) (qC h.l) (qB env') (qC h'.l)∧xQ P (l.map (·.1)) env h env' h'∧(K env' h').run=some r
 | [],env,h,K,ho,he,e=>⟨env,h,.refl _ _,.refl ho he,e⟩
 | (i,ty)::l,env,h,K,ho,he,e=>by
   unfold fzs at e;split at e
   ·rename_i v t hv ht;split at e
    ·rename_i x h' hd;obtain⟨y,a1,a2,a3,a4,_⟩:=qCW ho (nG he hv) hd;have hw:=zCD (nm:=nm) (ty:=ty) hv a1;have hs:yS (qB env) i (rt1 P ty y)=qB (yS env i (t.sv x)):=by rw[kH,pK,a2]
     rw[hs] at hw;obtain⟨env',h2,b1,b2,b3⟩:=q4L (l:=l) a4 (xK (t:=i) (v:=t.sv x) (qJ a3 he) (qJO t x)) e;refine⟨env',h2,hw.trans b1,?_,b3⟩
     have h0:xQ P [i] env h (yS env i (t.sv x)) h':=⟨xK (qJ a3 he) (qJO t x),a4,a3,fun j hj=>rH fun q=>hj (by rw[q];exact zSS j),j6 _ _ _⟩
     exact h0.trans b2
    ·cases e
   ·cases e
omit [Yl] in
theorem Wk.zNZ {env:List PV}(i k:Nat)(el:TypeId)(hi:zJ env i=some (fvv (.slice none 0 0)))(hs:szT P el=some (s+1))(hf:fresh nm k env ph=true):Wk P nm env ph (yS env i (.own k 0 0 0)) ((k,⟨el,true,[]⟩)::ph):=by
 intro Z H m zF7 hp he;rw[qF] at hi;obtain⟨v,hv,hr⟩:=he.get hi;have hvn:v=.slice none 0 0:=yK hr rfl;subst hvn;obtain⟨f1,f2,f3⟩:=q9L nm hf;have hnew:own m ((k,⟨el,true,[]⟩)::ph) k=some (m k,⟨el,true,[]⟩):=by simp[own,qA]
 have hold:∀ j,j≠k->own m ((k,⟨el,true,[]⟩)::ph) j=own m ph j:=fun j hj=>by
  unfold own;rw[yF hj]
 have hkr:KR (fun j=>j==k) (own m ph) (own m ((k,⟨el,true,[]⟩)::ph)):=fun j b ob hk=>by
  by_cases hj:j=k
  ·exact .inr (.inr (by simp[hj]))
  ·rw[hold j hj] at hk;exact .inl ⟨ob,hk,rfl,rfl,rfl⟩
 have mono:∀ {xs:List PV} {vs:List Value},VRL P Z H (own m ph) xs vs->z8 k xs=true->VRL P Z H (own m ((k,⟨el,true,[]⟩)::ph)) xs vs:=fun h hn=>h.mono (fun _ h=>h) (zPM _) (fun _ _ _=>rfl) hkr fun j hj=>by
  have:j=k:=by simpa using hj
  subst this;exact hn
 have hp':Hp P Z H (own m ((k,⟨el,true,[]⟩)::ph)):=by
  refine⟨hp.zlt,fun j b ob hk=>?_,fun j j' b b' ob ob' h1 h2 r1 r2 hne=>?_,hp.gl⟩
  ·by_cases hj:j=k
   ·subst hj;rw[hnew] at hk;cases hk;exact .inl ⟨rfl,rfl⟩
   ·rw[hold j hj] at hk
    rcases hp.obj j b ob hk with h | ⟨a1,a2,a3,a4⟩
    ·exact .inl h
    ·exact .inr ⟨a1,a2,a3,a4.mono rfl fun _ a5=>mono a5 (vD f3 (vW hk).1)⟩
  ·by_cases hj:j=k
   ·subst hj;rw[hnew] at h1;cases h1;exact absurd ⟨rfl,rfl⟩ r1
   ·by_cases hj':j'=k
    ·subst hj';rw[hnew] at h2;cases h2;exact absurd ⟨rfl,rfl⟩ r2
    ·rw[hold j hj] at h1;rw[hold j' hj'] at h2;exact hp.inj j j' b b' ob ob' h1 h2 r1 r2 hne
 have hown:VR P Z H (own m ((k,⟨el,true,[]⟩)::ph)) (.own k 0 0 0) (.slice none 0 0):=.own rfl fun b ob hM=>by
  rw[hnew] at hM;cases hM;exact⟨s+1,hs,by omega,by simp,fun _=>.inl ⟨rfl,rfl,rfl,rfl,rfl⟩⟩
 have hst:Step Z H (own m ph) Z H (own m ((k,⟨el,true,[]⟩)::ph)):=⟨zPM _,rfl,fun _ h=>h,fun _ _ _=>rfl,fun b h _=>.inl h,fun b ⟨j,ob,h1,h2⟩ _=>by
  by_cases hj:j=k
  ·subst hj;rw[hnew] at h1;cases h1;exact absurd ⟨rfl,rfl⟩ h2
  ·rw[hold j hj] at h1;exact⟨j,ob,h1,h2⟩⟩
 have hup:KR (inP nm) (own m ph) (own m ((k,⟨el,true,[]⟩)::ph)):=hkr.up fun j hj=>by
  have e:j=k:=by simpa using hj
  rw[e];exact f1
 exact⟨Z,m,hp',(mono he f2).slot hv hown,hst,hup⟩
omit [Yl] in
theorem Wk.zMN {env:List PV}(kb i k:Nat)(el:TypeId)(hk:qA kb ph=some ob)(hsp:spec P ob.el=false)(hgr:ob.gr=false)(hi:zJ ob.cs i=some (fvv (.slice none 0 0)))(hs:szT P el=some (s+1))(hf:fresh nm k env ph=true)(hne:k≠kb) :
 Wk P nm env ph env ((k,⟨el,true,[]⟩)::xR kb ⟨ob.el,false,yS ob.cs i (.own k 0 0 0)⟩ ph):=by
 intro Z H m zF7 hp he;obtain⟨f1,f2,f3⟩:=q9L nm hf;generalize zN0:(k,(⟨el,true,[]⟩:PO))::xR kb ⟨ob.el,false,yS ob.cs i (.own k 0 0 0)⟩ ph=ph'
 have hM':∀ j,own m ph' j=if j=k then some (m k,⟨el,true,[]⟩) else if j=kb then some (m kb,⟨ob.el,false,yS ob.cs i (.own k 0 0 0)⟩) else own m ph j:=fun j=>by
  subst zN0;unfold own;by_cases h1:j=k
  ·subst h1;simp[qA]
  ·rw[if_neg h1,yF h1,qZ];by_cases h2:j=kb
   ·subst h2;rw[if_pos ⟨rfl,by rw[hk];rfl⟩,if_pos rfl];rfl
   ·rw[if_neg (fun h=>h2 h.1),if_neg h2]
 have hnew:own m ph' k=some (m k,⟨el,true,[]⟩):=by rw[hM',if_pos rfl]
 have zHU:own m ph' kb=some (m kb,⟨ob.el,false,yS ob.cs i (.own k 0 0 0)⟩):=by rw[hM',if_neg hne.symm,if_pos rfl]
 have hold:∀ j,j≠k->j≠kb->own m ph' j=own m ph j:=fun j h1 h2=>by rw[hM',if_neg h1,if_neg h2]
 have hkM:own m ph kb=some (m kb,ob):=qN hk
 have hkr:KR (fun j=>j==k) (own m ph) (own m ph'):=fun j b o hj=>by
  by_cases h1:j=k
  ·exact .inr (.inr (by simp[h1]))
  ·by_cases h2:j=kb
   ·subst h2;rw[zHU] at hj;cases hj;exact .inl ⟨ob,hkM,by simp[qW],rfl,hgr⟩
   ·rw[hold j h1 h2] at hj;exact .inl ⟨o,hj,rfl,rfl,rfl⟩
 have mono:∀ {xs:List PV} {vs:List Value},VRL P Z H (own m ph) xs vs->z8 k xs=true->VRL P Z H (own m ph') xs vs:=fun h hn=>h.mono (fun _ h=>h) (zPM _) (fun _ _ _=>rfl) hkr fun j hj=>by
  have:j=k:=by simpa using hj
  subst this;exact hn
 have hown:VR P Z H (own m ph') (.own k 0 0 0) (.slice none 0 0):=.own rfl fun b o hM=>by
  rw[hnew] at hM;cases hM;exact⟨s+1,hs,by omega,by simp,fun _=>.inl ⟨rfl,rfl,rfl,rfl,rfl⟩⟩
 have zGZ:¬ (ob.gr=true∧ob.cs=[]):=fun h=>by rw[hgr] at h;cases h.1
 have hp':Hp P Z H (own m ph'):=by
  refine⟨hp.zlt,fun j b o hj=>?_,fun j j' b b' o o' h1 h2 r1 r2 hn=>?_,hp.gl⟩
  ·by_cases h1:j=k
   ·subst h1;rw[hnew] at hj;cases hj;exact .inl ⟨rfl,rfl⟩
   ·by_cases h2:j=kb
    ·subst h2;rw[zHU] at hj;cases hj
     rcases hp.obj j _ ob hkM with h | ⟨a1,a2,a3,⟨_,vs,a4,a5,a6⟩ | ⟨hs2,_⟩⟩
     rotate_right 1
     ·rw[hsp] at hs2;cases hs2
     ·exact absurd h zGZ
     ·have hv:=mono a5 (vD f3 hk);obtain⟨v,hv1,hv2⟩:=a5.get (i:=i) (by rw[<-qF];exact hi);have:v=.slice none 0 0:=yK hv2 rfl;subst this;refine .inr ⟨a1,a2,a3,.inl ⟨hsp,vs,?_,hv.slot hv1 hown,a6⟩⟩;rw[a4,hgr]
    ·rw[hold j h1 h2] at hj
     rcases hp.obj j b o hj with h | ⟨a1,a2,a3,a4⟩
     ·exact .inl h
     ·exact .inr ⟨a1,a2,a3,a4.mono rfl fun _ a5=>mono a5 (vD f3 (vW hj).1)⟩
  ·have tr:∀ {j b o},own m ph' j=some (b,o)->¬ (o.gr=true∧o.cs=[])->∃ o2,own m ph j=some (b,o2)∧¬ (o2.gr=true∧o2.cs=[]):=fun {j b o} hj hr=>by
    by_cases h1:j=k
    ·subst h1;rw[hnew] at hj;cases hj;exact absurd ⟨rfl,rfl⟩ hr
    ·by_cases h2:j=kb
     ·subst h2;rw[zHU] at hj;cases hj;exact⟨ob,hkM,zGZ⟩
     ·rw[hold j h1 h2] at hj;exact⟨o,hj,hr⟩
   obtain⟨o2,q1,q2⟩:=tr h1 r1;obtain⟨o3,q3,q4⟩:=tr h2 r2;exact hp.inj j j' b b' o2 o3 q1 q3 q2 q4 hn
 have hst:Step Z H (own m ph) Z H (own m ph'):=⟨zPM _,rfl,fun _ h=>h,fun _ _ _=>rfl,fun b h _=>.inl h,fun b ⟨j,o,h1,h2⟩ _=>by
  by_cases e1:j=k
  ·subst e1;rw[hnew] at h1;cases h1;exact absurd ⟨rfl,rfl⟩ h2
  ·by_cases e2:j=kb
   ·subst e2;rw[zHU] at h1;cases h1;exact⟨j,ob,hkM,zGZ⟩
   ·rw[hold j e1 e2] at h1;exact⟨j,o,h1,h2⟩⟩
 exact⟨Z,m,hp',mono he f2,hst,hkr.up fun j hj=>by
  have e:j=k:=by simpa using hj
  rw[e];exact f1⟩
def qED:SV->Bool
 | .c (.slice none 0 0)=>true
 | _=>false
theorem qE6 (e:qED v=true):v.enc=fvv (.slice none 0 0):=by
 unfold qED at e;split at e
 ·simp[SV.enc]
 ·cases e
def qSV (P:Program)(nm:Nm):List (Nat×TypeId)->List SV->SH->(List SV->SH->zF6 R)->zF6 R
 | [],env,h,K=>K env h
 | (i,el)::l,env,h,K=>match zJ env i with
   | some v=>cond (qED v) (match szT P el,qDK P 8 el with
     | some (s+1),some t=>cond (Nat.beq t.w (s+1)&&qFJ nm (nm.b+i) env h) (qSV P nm l (yS env i (.own (nm.b+i) h.next 0)) (h.new (nm.b+i) fun v=>.list el true v v t []) K) .fail
     | _,_=>.fail) (qSV P nm l env h K)
   | none=>.fail
theorem qA8:∀ {l:List (Nat×TypeId)} {env:List SV} {h:SH} {K:List SV->SH->zF6 R},OkH P h->okL h env->(qSV P nm l env h K).run=some r ->
 ∃ env' h',Wk P nm (qB env) (qC h.l) (qB env') (qC h'.l)∧xQ P (l.map (·.1)) env h env' h'∧(K env' h').run=some r
 | [],env,h,K,ho,he,e=>⟨env,h,.refl _ _,.refl ho he,e⟩
 | (i,el)::l,env,h,K,ho,he,e=>by
   unfold qSV at e;split at e
   ·rename_i v hv
    cases hn:qED v with
    | false =>
      rw[hn] at e;obtain⟨env',h2,b1,b2,b3⟩:=qA8 (l:=l) ho he e;exact⟨env',h2,b1,b2.up fun j hj=>zPS _ hj,b3⟩
    | true =>
      rw[hn] at e;simp only[cond_true] at e;split at e
      ·rename_i s t hs ht;obtain⟨c,e1⟩:=qE e;rw[zPK] at c;have hw:t.w=s+1:=zPL c.1;have hn2:=xL (k:=nm.b+i) (f:=fun v=>.list el true v v t []) ho ⟨rfl,rfl,by rw[hs,hw],by omega⟩
       have hfr:fresh nm (nm.b+i) (qB env) (qC h.l)=true:=by
        have c2:=c.2;unfold qFJ at c2;simp only[zPK] at c2;unfold fresh;rw[c2.1,c2.2.1,j3 c2.2.2];rfl
       have hwk:Wk P nm (qB env) (qC h.l) (qB (yS env i (.own (nm.b+i) h.next 0))) (qC (h.new (nm.b+i) fun v=>.list el true v v t []).l):=by
        have:=Wk.zNZ (P:=P) (nm:=nm) (ph:=qC h.l) i (nm.b+i) el (by rw[qX,hv,zPZ,qE6 hn]) hs hfr;rw[kH];simpa [SV.enc,SH.new,qC,SO.enc] using this
       have hok:(SV.own (nm.b+i) h.next 0).ok (h.new (nm.b+i) fun v=>.list el true v v t []):=w9 (xs:=([]:List t.sem)) rfl;obtain⟨env',h2,b1,b2,b3⟩:=qA8 (l:=l) hn2.2 (xK (t:=i) (qJ hn2.1 he) hok) e1;refine⟨env',h2,hwk.trans b1,?_,b3⟩
       have h0:xQ P [i] env h (yS env i (.own (nm.b+i) h.next 0)) (h.new (nm.b+i) fun v=>.list el true v v t []):=⟨xK (qJ hn2.1 he) hok,hn2.2,hn2.1,fun j hj=>rH fun q=>hj (by rw[q];exact zSS j),j6 _ _ _⟩
       exact h0.trans b2
      ·cases e
   ·cases e
theorem Hp.rel {Z:Nat->Prop}{H:IH}{m:Nat->Nat}{k L:Nat}(hp:Hp P Z H (own m ph))(hk:qA k ph=some ob)(h1:ob.el=1000000001)(h2:ob.gr=false)(h3:spec P 1000000001=true)(hL:qA L ph'=some ob)
 (hs:∀ j o,j≠L->qA j ph'=some o->j≠k∧qA j ph=some o∧z8 L o.cs=true) :
 Hp P Z H (own (fun j=>if j=L then m k else m j) ph')∧Step Z H (own m ph) Z H (own (fun j=>if j=L then m k else m j) ph')∧KR (fun j=>j==L) (own m ph) (own (fun j=>if j=L then m k else m j) ph'):=by
 have zGZ:Go.Idl.real ob:=fun h=>by rw[h2] at h;cases h.1
 have hnew:own (fun j=>if j=L then m k else m j) ph' L=some (m k,ob):=by unfold own;rw[hL];simp
 have hold:∀ {j b o},j≠L->own (fun j=>if j=L then m k else m j) ph' j=some (b,o)->j≠k∧own m ph j=some (b,o)∧z8 L o.cs=true:=fun {j b o} hj h=>by
  obtain⟨a1,a2⟩:=vW h;obtain⟨b1,b2,b3⟩:=hs j o hj a1;simp only[if_neg hj] at a2;exact⟨b1,by rw[a2];exact qN b2,b3⟩
 have hkr:KR (fun j=>j==L) (own m ph) (own (fun j=>if j=L then m k else m j) ph'):=fun j b' ob' h=>by
  by_cases hj:j=L
  ·exact .inr (.inr (by simp[hj]))
  ·exact .inl ⟨ob',(hold hj h).2.1,rfl,rfl,rfl⟩
 have hown:∀ {j b o},own (fun j=>if j=L then m k else m j) ph' j=some (b,o)->∃ j',own m ph j'=some (b,o)∧((j=L∧j'=k)∨(j≠L∧j'=j∧j≠k)):=fun {j b o} h=>by
  by_cases hj:j=L
  ·subst hj;rw[hnew] at h;cases h;exact⟨k,qN hk,.inl ⟨rfl,rfl⟩⟩
  ·exact⟨j,(hold hj h).2.1,.inr ⟨hj,rfl,(hold hj h).1⟩⟩
 refine⟨⟨hp.zlt,fun j b o hj=>?_,fun j j' b b' o o' e1 e2 r1 r2 hne=>?_,hp.gl⟩,⟨zPM _,rfl,fun _ h=>h,fun _ _ _=>rfl,fun _ h _=>.inl h,fun b ⟨j,o,hj,hr⟩ _=>?_⟩,hkr⟩
 ·by_cases hjL:j=L
  ·subst hjL;rw[hnew] at hj;cases hj
   rcases hp.obj k (m k) ob (qN hk) with q | ⟨x1,x2,x3,x4⟩
   ·exact absurd q zGZ
   ·refine .inr ⟨x1,x2,x3,?_⟩
    rcases x4 with ⟨y,_⟩ | ⟨y1,y2 | ⟨q,_⟩⟩
    ·rw[h1,h3] at y;cases y
    ·exact .inr ⟨y1,.inl y2⟩
    ·rw[h1] at q;cases q
  ·obtain⟨a1,a2,a3⟩:=hold hjL hj
   rcases hp.obj j b o a2 with q | ⟨x1,x2,x3,x4⟩
   ·exact .inl q
   ·exact .inr ⟨x1,x2,x3,x4.mono rfl fun vs hv=>hv.mono (fun _ h=>h) (zPM _) (fun _ _ _=>rfl) hkr fun i hi=>by
     have:i=L:=by simpa using hi
     rw[this];exact a3⟩
 ·obtain⟨i1,q1,c1⟩:=hown e1;obtain⟨i2,q2,c2⟩:=hown e2;refine hp.inj i1 i2 b b' o o' q1 q2 r1 r2 fun e=>?_
  rcases c1 with ⟨rfl,rfl⟩ | ⟨c1,rfl,c1'⟩ <;> rcases c2 with ⟨rfl,rfl⟩ | ⟨c2,rfl,c2'⟩
  ·exact hne rfl
  ·exact c2' e.symm
  ·exact c1' e
  ·exact hne e
 ·obtain⟨i,q,_⟩:=hown hj;exact⟨i,o,q,hr⟩
omit [Yl] in
theorem qQG {j:Nat}{o:SO}:∀ {l:List (Nat×SO)},slk j l=some o->(j,o)∈l
 | (i,p)::l,h=>by
   have h:cond (j==i) (some p) (slk j l)=some o:=h
   cases hj:j==i with
   | true =>
     rw[hj] at h;cases h;have:j=i:=by simpa using hj
     subst this;simp
   | false =>
     rw[hj] at h;exact zPS _ (qQG h)
def qZX (L:Nat)(l:List (Nat×SO)):List Nat:=(l.filter fun p=>!qFT L [p]).map (·.1)
def qXI:List Nat->List (Nat×SO)->List (Nat×SO)
 | [],l=>l
 | k::ks,l=>sdl k (qXI ks l)
omit [Yl] in
theorem bF {k:Nat}:∀ (l:List (Nat×SO)),slk k (sdl k l)=none
 | []=>rfl
 | (i,p)::l=>by
   show slk k (cond (k==i) (sdl k l) ((i,p)::sdl k l))=none
   cases h:k==i with
   | true=>exact bF l
   | false =>
     show cond (k==i) (some p) (slk k (sdl k l))=none;rw[h];exact bF l
omit [Yl] in
theorem qQP {j:Nat}{o:SO}:∀ {ls:List Nat} {l:List (Nat×SO)},slk j (qXI ls l)=some o->j ∉ ls∧slk j l=some o
 | [],l,h=>⟨by simp,h⟩
 | k::ks,l,h=>by
   have h:slk j (sdl k (qXI ks l))=some o:=h;by_cases hj:j=k
   ·subst hj;rw[bF] at h;cases h
   ·rw[kX hj] at h;obtain⟨h1,h2⟩:=qQP h;exact⟨by simp[hj,h1],h2⟩
def zCZ (P:Program)(nm:Nm)(i:Nat)(env:List SV)(h:SH)(K:List SV->SH->zF6 R):zF6 R:=match zJ env i with
 | some (.mp k)=>(match slk k h.l with
   | some (.spc _ (.map es))=>cond (inP nm (nm.b+i)&&(z8 (nm.b+i) (qB (yS env i .unk))&&spec P 1000000001))
      (K (yS env i (.mp (nm.b+i))) ⟨h.next+1,(nm.b+i,.spc h.next (.map es))::qXI (k::(nm.b+i)::qZX (nm.b+i) h.l) h.l⟩) .fail
   | _=>.fail)
 | _=>.fail
theorem q8U {K:List SV->SH->zF6 R}(ho:OkH P h)(he:okL h env)(e:(zCZ P nm i env h K).run=some r) :
 ∃ env' h',Wk P nm (qB env) (qC h.l) (qB env') (qC h'.l)∧xQ P [i] env h env' h'∧(K env' h').run=some r:=by
 unfold zCZ at e;split at e
 case h_2=>cases e
 rename_i k hi;split at e
 case h_2=>cases e
 rename_i v es hk;obtain⟨hc,e1⟩:=qE e;simp only[zPK] at hc;obtain⟨hin,hno,hsp⟩:=hc
 have hlk:∀ {j:Nat} {o:SO},j≠nm.b+i->slk j ((nm.b+i,SO.spc h.next (.map es))::qXI (k::(nm.b+i)::qZX (nm.b+i) h.l) h.l)=some o->j≠k∧slk j h.l=some o∧z8 (nm.b+i) o.enc.cs=true:=fun {j o} hj h1=>by
  rw[yA hj] at h1;obtain⟨a1,a2⟩:=qQP h1;simp only[zP6,not_or] at a1;refine⟨a1.1,a2,?_⟩;have hm:=qQG a2
  have:qFT (nm.b+i) [(j,o)]=true:=by
   cases hb:qFT (nm.b+i) [(j,o)] with
   | true=>rfl
   | false =>
     refine absurd ?_ a1.2.2;unfold qZX;exact zQB.2 ⟨(j,o),zTW.2 ⟨hm,by rw[hb];rfl⟩,rfl⟩
  have h2:=j3 this;have h2:(z8 (nm.b+i) o.enc.cs&&aJ (nm.b+i) [])=true:=h2;rw[zPK] at h2;exact h2.1
 have hself:slk (nm.b+i) ((nm.b+i,SO.spc h.next (.map es))::qXI (k::(nm.b+i)::qZX (nm.b+i) h.l) h.l)=some (.spc h.next (.map es)):=by
  show cond (nm.b+i==nm.b+i) _ _=_;simp
 have kp:Keep h ⟨h.next+1,(nm.b+i,.spc h.next (.map es))::qXI (k::(nm.b+i)::qZX (nm.b+i) h.l) h.l⟩:=by
  refine⟨zS3 _,fun j o hj hw=>?_,fun j el gr g w t xs hj hg=>?_⟩
  ·by_cases hjL:j=nm.b+i
   ·subst hjL;rw[hself] at hj;cases hj;exact absurd hw (zSU _)
   ·exact (hlk hjL hj).2.1
  ·by_cases hjL:j=nm.b+i
   ·subst hjL;rw[hself] at hj;cases hj
   ·exact⟨w,xs,(hlk hjL hj).2.1,rfl⟩
 have ok:OkH P ⟨h.next+1,(nm.b+i,.spc h.next (.map es))::qXI (k::(nm.b+i)::qZX (nm.b+i) h.l) h.l⟩:=by
  refine⟨fun j o hj=>?_,fun j el w l hj=>?_,fun j el gr g w t xs hj=>?_⟩
  ·by_cases hjL:j=nm.b+i
   ·subst hjL;rw[hself] at hj;cases hj;exact zQI _
   ·exact zQ7 (ho.ver j o (hlk hjL hj).2.1)
  ·by_cases hjL:j=nm.b+i
   ·subst hjL;rw[hself] at hj;cases hj
   ·exact qJ kp (ho.cells j el w l (hlk hjL hj).2.1)
  ·by_cases hjL:j=nm.b+i
   ·subst hjL;rw[hself] at hj;cases hj
   ·have:=ho.list j el gr g w t xs (hlk hjL hj).2.1;exact⟨zQ7 this.1,this.2⟩
 refine⟨_,_,fun Z H m vs hp hv=>?_,⟨xK (qJ kp he) (by simp[SV.ok]),ok,kp,fun j hj=>?_,by rw[qW,zQM]⟩,e1⟩
 ·obtain⟨r1,r2,r3⟩:=Hp.rel (L:=nm.b+i) (ph':=qC ((nm.b+i,SO.spc h.next (.map es))::qXI (k::(nm.b+i)::qZX (nm.b+i) h.l) h.l)) (ob:=(SpO.map es).enc) hp (zN hk) rfl rfl hsp (zN hself) fun j o hj hl=>by
   rw[vJ] at hl
   cases hq:slk j ((nm.b+i,SO.spc h.next (.map es))::qXI (k::(nm.b+i)::qZX (nm.b+i) h.l) h.l) with
   | none=>rw[hq] at hl;cases hl
   | some o' =>
     rw[hq] at hl;cases hl;obtain⟨a1,a2,a3⟩:=hlk hj hq;exact⟨a1,zN a2,a3⟩
  refine⟨Z,_,r1,⟨?_,fun j x u hx hu=>?_⟩,r2,r3.up fun j hj=>by
   have:j=nm.b+i:=by simpa using hj
   rw[this];exact hin⟩
  ·rw[qQ,qW,zQM,<-qQ];exact hv.len
  ·rw[<-qF,qX,qW,qF,zQG] at hx;by_cases hji:i=j
   ·subst hji
    have hlt:i < env.length:=by
     rw[qF] at hi;exact (zPQ.1 hi).1
    simp only[if_true,hlt,zPZ,zPT] at hx;subst hx;have hv1:=hv.val i _ u (by rw[<-qF,qX,hi];rfl) hu;simp only[SV.enc] at hv1 ⊢
    cases hv1 with
    | mp g1 g2 =>
      obtain⟨_,rfl⟩:=g2 _ _ (qN (zN hk));refine zAH fun b' ob' hM=>?_
      have:own (fun j=>if j=nm.b+i then m k else m j) (qC ((nm.b+i,SO.spc h.next (.map es))::qXI (k::(nm.b+i)::qZX (nm.b+i) h.l) h.l)) (nm.b+i)=some (m k,(SpO.map es).enc):=by
       unfold own;rw[zN hself];simp[SO.enc]
      rw[this] at hM;cases hM;exact⟨rfl,rfl⟩
   ·rw[if_neg hji] at hx;have hx1:(qB env)[j]?=some x:=by rw[<-qF,qX,qF];exact hx
    refine (hv.val j x u hx1 hu).mono (fun _ h=>h) (zPM _) (fun _ _ _=>rfl) r3 fun i' hi'=>?_
    have:i'=nm.b+i:=by simpa using hi'
    rw[this];refine wI hno (i:=j) ?_;rw[<-qF,qX,qW,qF,zQG,if_neg hji];exact hx
 ·have hji:¬ i=j:=fun h=>hj (by simp[h])
  rw[qX,qX,qW,qF,qF,zQG,if_neg hji]
theorem qZM (ho:OkH P h)(he:okL h env):Wk P nm (qB env) (qC h.l) (qB (yS env i .unk)) (qC h.l)∧xQ P [i] env h (yS env i .unk) h:=by
 refine⟨Wk.drop (qR8 (by rw[qQ,qQ,qW,zQM]) fun j=>?_) (oU.refl _),xK he (by simp[SV.ok]),ho,.refl _,fun j hj=>?_,by rw[qW,zQM]⟩
 ·rw[qX,qX,qW,qF,qF,zQG];by_cases hji:i=j
  ·subst hji;simp only[if_true];by_cases hlt:i < env.length
   ·simp only[hlt,if_true,zPZ]
    right;simp[SV.enc]
   ·simp only[hlt,if_false]
    left
    rw[zQ0 (by omega)]
  ·rw[if_neg hji];exact .inl rfl
 ·have hji:¬ i=j:=fun h=>hj (by simp[h])
  rw[qX,qX,qW,qF,qF,zQG,if_neg hji]
omit [Yl] in
theorem qAK {f:PHp->PV->Option (FV×PHp)}(hf:∀ ph x y ph',f ph x=some (y,ph')->oU ph' ph):∀ {l:List PV} {ph ph':PHp} {ys:List FV},qAC f l ph=some (ys,ph')->oU ph' ph
 | [],ph,ph',ys,h=>by cases h;exact .refl _
 | x::l,ph,ph',ys,h=>by
   unfold qAC at h;split at h
   ·rename_i y ph1 h1;split at h
    ·rename_i zs ph2 h2;cases h;exact fun k ob q=>hf _ _ _ _ h1 k ob (qAK hf h2 k ob q)
    ·cases h
   ·cases h
omit [Yl] in
theorem qG5:∀ (n:Nat) (ph:PHp) (x:PV) (y:FV) (ph':PHp),fz1 P n ph x=some (y,ph')->oU ph' ph
 | 0,ph,x,y,ph',h=>by
   cases x with
   | f x =>
     have h:some (x,ph)=some (y,ph'):=h;cases h;exact .refl _
   | _ =>
     have h:(none:Option (FV×PHp))=some (y,ph'):=h;cases h
 | n+1,ph,x,y,ph',h=>by
   cases x with
   | f x =>
     have h:some (x,ph)=some (y,ph'):=h;cases h;exact .refl _
   | own k t o c =>
     unfold fz1 at h;split at h
     case h_2=>cases h
     split at h
     case h_2=>cases h
     obtain⟨_,h⟩:=yP h;split at h
     case h_2=>cases h
     rename_i hq;cases h
     exact fun j ob q=>by
      have q1:=qAK (qG5 n) hq j ob q;rw[xA] at q1;split at q1
      ·cases q1
      ·exact q1
   | asl el k t =>
     unfold fz1 at h;split at h
     case h_2=>cases h
     obtain⟨_,h⟩:=yP h;split at h
     case h_2=>cases h
     rename_i hq;cases h
     exact fun j ob q=>by
      have q1:=qAK (qG5 n) hq j ob q;rw[xA] at q1;split at q1
      ·cases q1
      ·exact q1
   | _ =>
     have h:(none:Option (FV×PHp))=some (y,ph'):=h;cases h
omit [Yl] in
theorem q7D (h:fzP P ph x=some (y,ph')):oU ph' ph:=by
 unfold fzP at h;split at h
 ·split at h
  ·rename_i hq;cases h;exact qAK (qG5 4) hq
  ·cases h
 ·split at h
  ·rename_i hq;cases h;exact qG5 4 _ _ _ _ hq
  ·cases h
omit [Yl] in
theorem Wk.zN1 {env:List PV}(kb i:Nat)(ty:TypeId)(hk':qA kb ph'=some ob)(hsp:spec P ob.el=false)(hgr:ob.gr=false)(hi:zJ ob.cs i=some x)(hf:fzP P ph x=some (y,ph'))(hk:qA kb ph=some ob) :
 Wk P nm env ph env (xR kb ⟨ob.el,false,yS ob.cs i (rt1 P ty y)⟩ ph'):=by
 intro Z H m zF7 hp he;have hkM:own m ph kb=some (m kb,ob):=qN hk;have zGZ:¬ (ob.gr=true∧ob.cs=[]):=fun h=>by rw[hgr] at h;cases h.1
 rcases hp.obj kb _ ob hkM with h | ⟨_,_,_,⟨_,vs0,a40,a50,_⟩ | ⟨hs2,_⟩⟩
 rotate_right 1
 ·rw[hsp] at hs2;cases hs2
 ·exact absurd h zGZ
 obtain⟨v,hv1,hv2⟩:=a50.get (i:=i) (by rw[<-qF];exact hi);obtain⟨Z',fz,hy⟩:=qKB hp hv2 hf;have hyr:∀ M,VR P Z' H M (rt1 P ty y) v:=fun M=>qFL (bX hy (qPL hf))
 have hp1:=fz.hp;have zKR:own m ph' kb=some (m kb,ob):=qN hk';generalize zN2:xR kb (⟨ob.el,false,yS ob.cs i (rt1 P ty y)⟩:PO) ph'=ph2
 have hM':∀ j,own m ph2 j=if j=kb then some (m kb,⟨ob.el,false,yS ob.cs i (rt1 P ty y)⟩) else own m ph' j:=fun j=>by
  subst zN2;unfold own;rw[qZ];by_cases h2:j=kb
  ·subst h2;rw[if_pos ⟨rfl,by rw[hk'];rfl⟩,if_pos rfl];rfl
  ·rw[if_neg (fun h=>h2 h.1),if_neg h2]
 have zHU:own m ph2 kb=some (m kb,⟨ob.el,false,yS ob.cs i (rt1 P ty y)⟩):=by rw[hM',if_pos rfl]
 have hold:∀ j,j≠kb->own m ph2 j=own m ph' j:=fun j h2=>by rw[hM',if_neg h2]
 have hkr:∀ p,KR p (own m ph') (own m ph2):=fun p j b o hj=>by
  by_cases h2:j=kb
  ·subst h2;rw[zHU] at hj;cases hj;exact .inl ⟨ob,zKR,by simp[qW],rfl,hgr⟩
  ·rw[hold j h2] at hj;exact .inl ⟨o,hj,rfl,rfl,rfl⟩
 have mono:∀ {xs:List PV} {vs:List Value},VRL P Z' H (own m ph') xs vs->VRL P Z' H (own m ph2) xs vs:=fun h=>h.mono (fun _ h=>h) (zPM _) (fun _ _ _=>rfl) (hkr fun _=>false) fun j hj=>by cases hj
 have hp':Hp P Z' H (own m ph2):=by
  refine⟨hp1.zlt,fun j b o hj=>?_,fun j j' b b' o o' h1 h2 r1 r2 hn=>?_,hp1.gl⟩
  ·by_cases h2:j=kb
   ·subst h2;rw[zHU] at hj;cases hj
    rcases hp1.obj j _ ob zKR with h | ⟨a1,a2,a3,⟨_,vs,a4,a5,a6⟩ | ⟨hs2,_⟩⟩
    rotate_right 1
    ·rw[hsp] at hs2;cases hs2
    ·exact absurd h zGZ
    ·have hv:=mono a5
     have hvv:vs=vs0:=by
      rw[a40] at a4;injection a4 with e1;injection e1 with e2;injection e2 with e3;exact e3.symm
     subst hvv;refine .inr ⟨a1,a2,a3,.inl ⟨hsp,vs,?_,hv.slot hv1 (hyr _),a6⟩⟩;rw[a4,hgr]
   ·rw[hold j h2] at hj
    rcases hp1.obj j b o hj with h | ⟨a1,a2,a3,a4⟩
    ·exact .inl h
    ·exact .inr ⟨a1,a2,a3,a4.mono rfl fun _ a5=>mono a5⟩
  ·have tr:∀ {j b o},own m ph2 j=some (b,o)->¬ (o.gr=true∧o.cs=[])->∃ o2,own m ph' j=some (b,o2)∧¬ (o2.gr=true∧o2.cs=[]):=fun {j b o} hj hr=>by
    by_cases h2:j=kb
    ·subst h2;rw[zHU] at hj;cases hj;exact⟨ob,zKR,zGZ⟩
    ·rw[hold j h2] at hj;exact⟨o,hj,hr⟩
   obtain⟨o2,q1,q2⟩:=tr h1 r1;obtain⟨o3,q3,q4⟩:=tr h2 r2;exact hp1.inj j j' b b' o2 o3 q1 q3 q2 q4 hn
 have hst:Step Z' H (own m ph') Z' H (own m ph2):=⟨zPM _,rfl,fun _ h=>h,fun _ _ _=>rfl,fun b h _=>.inl h,fun b ⟨j,o,h1,h2⟩ _=>by
  by_cases e2:j=kb
  ·subst e2;rw[zHU] at h1;cases h1;exact⟨j,ob,zKR,zGZ⟩
  ·rw[hold j e2] at h1;exact⟨j,o,h1,h2⟩⟩
 exact⟨Z',m,hp',mono (fz.vrl he),fz.step.trans hst,(fz.kr _).trans (hkr _)⟩
def bxI (env:List SV)(i:Nat):Option Nat:=cond (Nat.ble 1000000000000000 i) (some (i - 1000000000000000)) (match zJ env i with
 | some (.ref kb _ _)=>some kb
 | _=>none)
def q9K (P:Program)(i c:Nat)(ty:TypeId)(env:List SV)(h:SH)(K:List SV->SH->zF6 R):zF6 R:=match bxI env i,qDK P 8 ty with
 | some kb,some t=>(match slk kb h.l with
   | some (.cells _ _ cs)=>(match zJ cs c with
     | some v=>(match q67 P ty t v h with
       | some (x,h')=>(match slk kb h'.l with
         | some (.cells e _ cs')=>cond (!spec P e) (K env (h'.put kb fun v=>.cells e v (yS cs' c (t.sv x)))) .fail
         | _=>.fail)
       | none=>.fail)
     | none=>.fail)
   | _=>.fail)
 | _,_=>.fail
theorem qVZ {K:List SV->SH->zF6 R}(ho:OkH P h)(he:okL h env)(e:(q9K P i c ty env h K).run=some r) :
 ∃ env' h',Wk P nm (qB env) (qC h.l) (qB env') (qC h'.l)∧xQ P [i] env h env' h'∧(K env' h').run=some r:=by
 unfold q9K at e;split at e
 case h_2=>cases e
 rename_i kb t hi ht;split at e
 case h_2=>cases e
 rename_i eb wb cs hkb;split at e
 case h_2=>cases e
 rename_i v hv;split at e
 case h_2=>cases e
 rename_i x h' hd;split at e
 case h_2=>cases e
 rename_i e2 w2 cs2 hkb2;obtain⟨hc,e1⟩:=qE e;have hvk:v.ok h:=nG (ho.cells _ _ _ _ hkb) hv;obtain⟨y,a1,a2,a3,a4,_⟩:=qCW ho hvk hd;have hsp:spec P e2=false:=by simpa using hc
 have hp2:=vY (k:=kb) (f:=fun v=>.cells e2 v (yS cs2 c (t.sv x))) a4 hkb2 ⟨rfl,xK (a4.cells _ _ _ _ hkb2) (qJO t x)⟩;have hk2:=zN hkb2;have hk1:=zN hkb;have hsub:=q7D a1 kb _ hk2
 have hcs:qB cs2=qB cs:=by
  rw[hk1] at hsub;injection hsub with q;injection q with q1 q2 q3;exact q3.symm
 refine⟨env,h'.put kb fun v=>.cells e2 v (yS cs2 c (t.sv x)),?_,⟨qJ hp2.1 (qJ a3 he),hp2.2,a3.trans hp2.1,fun _ _=>rfl,rfl⟩,e1⟩
 have:=Wk.zN1 (P:=P) (nm:=nm) (env:=qB env) kb c ty hk2 hsp rfl (x:=v.enc) (by
  show zJ (qB cs2) c=_
  rw[hcs,qX,hv];rfl) a1 hsub
 refine this.trans ?_
 have he2:xR kb ⟨(SO.cells e2 w2 cs2).enc.el,false,yS (SO.cells e2 w2 cs2).enc.cs c (rt1 P ty y)⟩ (qC h'.l)=qC ((h'.put kb fun v=>.cells e2 v (yS cs2 c (t.sv x))).l):=by
  show _=qC (sst kb _ h'.l);rw[xX];simp[SO.enc,kH,pK,a2]
 rw[he2];exact .refl _ _
def zDA (i:Nat)(env:List SV)(h:SH)(K:List SV->SH->zF6 R):zF6 R:=match zJ env i with
 | some (.d (.list el (.int k)) xs)=>.ite (List.isEmpty xs) .fail (K (yS env i (.d (.ol el k) xs)) h)
 | _=>.fail
theorem q7G {K:List SV->SH->zF6 R}(ho:OkH P h)(he:okL h env)(e:(zDA i env h K).run=some r) :
 ∃ env' h',Wk P nm (qB env) (qC h.l) (qB env') (qC h'.l)∧xQ P [i] env h env' h'∧(K env' h').run=some r:=by
 unfold zDA at e;split at e
 ·rename_i el k xs hi
  rcases run_ite e with ⟨_,e1⟩ | ⟨hx,e1⟩
  ·cases e1
  ·refine⟨_,h,?_,⟨xK he (by simp[SV.ok]),ho,.refl _,fun j hj=>rH fun q=>hj (by rw[q];exact zSS j),j6 _ _ _⟩,e1⟩
   have:qB (yS env i (.d (.ol el k) xs))=qB env:=by
    rw[kH]
    have h2:(SV.d (.ol el k) xs).enc=(SV.d (.list el (.int k)) xs).enc:=by
     cases xs with
     | nil=>cases hx
     | cons x xs=>simp[SV.enc,Ty.fv,fvo,Ty.cells]
    rw[h2,qW]
    have h3:(qB env)[i]?=some (SV.d (.list el (.int k)) xs).enc:=by
     rw[<-qF,qX,hi];rfl
    obtain⟨h4,h5⟩:=zPQ.1 h3;rw[<-h5,zTR]
   rw[this];exact .refl _ _
 ·cases e
omit [Yl] in
theorem Wk.ext {pe:List PV}{a b:PHp}(h:∀ l,qA l b=qA l a):Wk P nm pe a pe b:=fun Z H m vs hp hv=>by
 have e:own m b=own m a:=qB5 h;exact⟨Z,m,by rw[e];exact hp,by rw[e];exact hv,by rw[e];exact .refl _ _ _,by rw[e];exact .refl _ _⟩
def olV (P:Program)(ty:TypeId):SV->Option (Option Bool×SV)
 | .d (.list el (.int k)) xs=>some (some (List.isEmpty xs),.d (.ol el k) xs)
 | .c (.slice none 0 0)=>(match zFE P ty with
   | some (.ol el k)=>some (none,.d (.ol el k) [])
   | _=>none)
 | .d (.ol el k) xs=>some (none,.d (.ol el k) xs)
 | _=>none
theorem q68 {x:SV}{b:Option Bool}(e:olV P ty v=some (b,x))(hb:b≠some true):x.enc=v.enc∧∀ h,x.ok h:=by
 unfold olV at e;split at e
 ·rename_i el k xs;cases e;refine⟨?_,fun h=>by simp[SV.ok]⟩
  cases xs with
  | nil=>exact absurd rfl hb
  | cons x xs=>simp[SV.enc,Ty.fv,fvo,Ty.cells]
 ·split at e
  ·cases e;exact⟨by simp[SV.enc,Ty.fv,fvo,fvv],fun h=>by simp[SV.ok]⟩
  ·cases e
 ·cases e;exact⟨rfl,fun h=>by simp[SV.ok]⟩
 ·cases e
def zBN (P:Program)(i c:Nat)(ty:TypeId)(env:List SV)(h:SH)(K:List SV->SH->zF6 R):zF6 R:=match bxI env i with
 | some kb=>(match slk kb h.l with
   | some (.cells el _ cs)=>(match zJ cs c with
     | some v=>(match olV P ty v with
       | some (some b,x)=>.ite b .fail (K env (h.put kb fun u=>.cells el u (yS cs c x)))
       | some (none,x)=>K env (h.put kb fun u=>.cells el u (yS cs c x))
       | none=>.fail)
     | none=>.fail)
   | _=>.fail)
 | _=>.fail
theorem qXL {K:List SV->SH->zF6 R}(ho:OkH P h)(he:okL h env)(e:(zBN P i c ty env h K).run=some r) :
 ∃ env' h',Wk P nm (qB env) (qC h.l) (qB env') (qC h'.l)∧xQ P [i] env h env' h'∧(K env' h').run=some r:=by
 unfold zBN at e;split at e
 case h_2=>cases e
 rename_i kb hi;split at e
 case h_2=>cases e
 rename_i el w0 cs hk;split at e
 case h_2=>cases e
 rename_i v hv
 have fin:∀ {b:Option Bool} {x:SV},olV P ty v=some (b,x)->b≠some true->(K env (h.put kb fun u=>.cells el u (yS cs c x))).run=some r->∃ env' h',Wk P nm (qB env) (qC h.l) (qB env') (qC h'.l)∧xQ P [i] env h env' h'∧(K env' h').run=some r:=fun {b x} hx hb e=>by
  obtain⟨h1,h2⟩:=q68 hx hb;have hp:=vY (k:=kb) (f:=fun u=>.cells el u (yS cs c x)) ho hk ⟨rfl,xK (ho.cells _ _ _ _ hk) (h2 h)⟩;refine⟨env,_,Wk.ext fun l=>?_,⟨qJ hp.1 he,hp.2,hp.1,fun _ _=>rfl,rfl⟩,e⟩;show qA l (qC (sst kb _ h.l))=_;rw[xX,qZ];split
  ·rename_i q;rw[q.1,zN hk];show some (⟨el,false,qB (yS cs c x)⟩:PO)=some ⟨el,false,qB cs⟩;rw[kH,h1,qW];have h3:(qB cs)[c]?=some v.enc:=by rw[<-qF,qX,hv];rfl
   obtain⟨h4,h5⟩:=zPQ.1 h3;rw[<-h5,zTR]
  ·rfl
 split at e
 ·rename_i b x hx
  rcases run_ite e with ⟨_,e1⟩ | ⟨hb,e1⟩
  ·cases e1
  ·exact fin hx (by rw[hb];simp) e1
 ·rename_i x hx;exact fin hx (by simp) e
 ·cases e
def q4B (i c:Nat)(env:List SV)(h:SH):Bool:=match bxI env i with
 | some kb=>(match slk kb h.l with
   | some (.cells _ _ cs)=>(match zJ cs c with
     | some (.own _ _ _)=>true
     | some (.sl _ _ _ _ _)=>true
     | _=>false)
   | _=>false)
 | none=>false
def zC0 (P:Program)(i c:Nat)(ty:TypeId)(env:List SV)(h:SH)(K:List SV->SH->zF6 R):zF6 R:=cond (q4B i c env h) (q9K P i c ty env h fun env h=>zBN P i c ty env h K) (zBN P i c ty env h K)
theorem q56 {K:List SV->SH->zF6 R}(ho:OkH P h)(he:okL h env)(e:(zC0 P i c ty env h K).run=some r) :
 ∃ env' h',Wk P nm (qB env) (qC h.l) (qB env') (qC h'.l)∧xQ P [i] env h env' h'∧(K env' h').run=some r:=by
 unfold zC0 at e
 cases hb:q4B i c env h with
 | true =>
   rw[hb] at e;obtain⟨zGC,h1,a,b,e1⟩:=qVZ (nm:=nm) ho he (show (q9K P i c ty env h fun env h=>zBN P i c ty env h K).run=some r from e);obtain⟨zGN,h2,a2,b2,e2⟩:=qXL (nm:=nm) b.2.1 b.1 e1;exact⟨zGN,h2,a.trans a2,(b.trans b2).up fun i hi=>by simpa using hi,e2⟩
 | false =>
   rw[hb] at e;exact qXL ho he e
def qDI (P:Program)(nm:Nm):List (Nat×Nat×TypeId×Nat)->List SV->SH->(List SV->SH->zF6 R)->zF6 R
 | [],env,h,K=>K env h
 | (kb,i,el,k)::l,env,h,K=>match slk kb h.l with
   | some (.cells e _ cs)=>(match zJ cs i with
     | some v=>cond (qED v) (match szT P el,qDK P 8 el with
       | some (s+1),some t=>cond (Nat.beq t.w (s+1)&&(qFJ nm k env h&&(!Nat.beq k kb&&!spec P e))) (qDI P nm l env ((h.new k fun v=>.list el true v v t []).put kb fun v=>.cells e v (yS cs i (.own k h.next 0))) K) .fail
       | _,_=>.fail) (qDI P nm l env h K)
     | none=>.fail)
   | _=>.fail
theorem oV:∀ {l:List (Nat×Nat×TypeId×Nat)} {env:List SV} {h:SH} {K:List SV->SH->zF6 R},OkH P h->okL h env->(qDI P nm l env h K).run=some r ->
 ∃ h',Wk P nm (qB env) (qC h.l) (qB env) (qC h'.l)∧Keep h h'∧OkH P h'∧(K env h').run=some r
 | [],env,h,K,ho,he,e=>⟨h,.refl _ _,.refl _,ho,e⟩
 | (kb,i,el,k)::l,env,h,K,ho,he,e=>by
   unfold qDI at e;split at e
   case h_2=>cases e
   rename_i eb wb cs hkb;split at e
   case h_2=>cases e
   rename_i v hv
   cases hn:qED v with
   | false =>
     rw[hn] at e;exact oV (l:=l) ho he e
   | true =>
     rw[hn] at e;simp only[cond_true] at e;split at e
     case h_2=>cases e
     rename_i s t hs ht;obtain⟨c,e1⟩:=qE e;simp only[zPK] at c;have hw:t.w=s+1:=zPL c.1
     have hne:k≠kb:=fun q=>by
      have:=c.2.2.1;rw[q,aI] at this;cases this
     have hsp:spec P eb=false:=by simpa using c.2.2.2
     have hn2:=xL (k:=k) (f:=fun v=>.list el true v v t []) ho ⟨rfl,rfl,by rw[hs,hw],by omega⟩;have hok:(SV.own k h.next 0).ok (h.new k fun v=>.list el true v v t []):=w9 (xs:=([]:List t.sem)) rfl
     have zN3:slk kb (h.new k fun v=>.list el true v v t []).l=some (.cells eb wb cs):=by
      rw[show slk kb (h.new k fun v=>.list el true v v t []).l=slk kb h.l from yA hne.symm];exact hkb
     have hcs:okL (h.new k fun v=>.list el true v v t []) cs:=qJ hn2.1 (ho.cells _ _ _ _ hkb);have hp2:=vY (k:=kb) (f:=fun v=>.cells eb v (yS cs i (.own k h.next 0))) hn2.2 zN3 ⟨rfl,xK hcs hok⟩
     have hfr:fresh nm k (qB env) (qC h.l)=true:=by
      have c2:=c.2.1;unfold qFJ at c2;simp only[zPK] at c2;unfold fresh;rw[c2.1,c2.2.1,j3 c2.2.2];rfl
     obtain⟨h',b1,b2,b3,b4⟩:=oV (l:=l) hp2.2 (qJ hp2.1 (qJ hn2.1 he)) e1;refine⟨h',?_,hn2.1.trans (hp2.1.trans b2),b3,b4⟩;have hk:=zN hkb
     have:=Wk.zMN (P:=P) (nm:=nm) (env:=qB env) kb i k el hk hsp rfl (by
      show zJ (qB cs) i=_
      rw[qX,hv,zPZ,qE6 hn]) hs hfr hne
     refine Wk.trans this ?_
     have he2:(k,(⟨el,true,[]⟩:PO))::xR kb ⟨(SO.cells eb wb cs).enc.el,false,yS (SO.cells eb wb cs).enc.cs i (.own k 0 0 0)⟩ (qC h.l)=qC (((h.new k fun v=>.list el true v v t []).put kb fun v=>.cells eb v (yS cs i (.own k h.next 0))).l):=by
      show _=qC (sst kb _ ((k,_)::h.l));have:(kb==k)=false:=by simpa using hne.symm
      show _=qC (cond (kb==k) _ ((k,_)::sst kb _ h.l));rw[this];show _=(k,_)::qC (sst kb _ h.l);rw[xX];simp[SO.enc,kH,SV.enc]
     rw[he2];exact b1
def unB (c:Nat):Nat×Nat×TypeId×Nat:=((c / 1000000) % 10000000,(c / 100000) % 10,c % 100000,c / 10000000000000)
def fzv (P:Program)(nm:Nm):List (Nat×TypeId)->List SV->SH->(List SV->SH->zF6 R)->zF6 R
 | [],env,h,K=>K env h
 | (i,ty)::l,env,h,K=>cond (Nat.ble 2000000000 ty) (cond (Nat.ble 3000000000 ty) (cond (Nat.ble 4000000000 ty) (cond (Nat.ble 5000000000 ty) (cond (Nat.ble 6000000000 ty) (cond (Nat.ble 7000000000000 ty) (qDI P nm [unB (ty - 7000000000000)] env h fun env h=>fzv P nm l env h K) (zC0 P i ((ty - 6000000000) / 100000) ((ty - 6000000000) % 100000) env h fun env h=>fzv P nm l env h K)) (zDA i env h fun env h=>fzv P nm l env h K)) (q9K P i ((ty - 4000000000) / 100000) ((ty - 4000000000) % 100000) env h fun env h=>fzv P nm l env h K)) (fzv P nm l (yS env i .unk) h K)) (zCZ P nm i env h fun env h=>fzv P nm l env h K)) <| cond (Nat.ble 1000000000 ty) (qSV P nm [(i,ty - 1000000000)] env h fun env h=>fzv P nm l env h K) (fzs P [(i,ty)] env h fun env h=>fzv P nm l env h K)
theorem qR9:∀ {l:List (Nat×TypeId)} {env:List SV} {h:SH} {K:List SV->SH->zF6 R},OkH P h->okL h env->(fzv P nm l env h K).run=some r ->
 ∃ env' h',Wk P nm (qB env) (qC h.l) (qB env') (qC h'.l)∧xQ P (l.map (·.1)) env h env' h'∧(K env' h').run=some r
 | [],env,h,K,ho,he,e=>⟨env,h,.refl _ _,.refl ho he,e⟩
 | (i,ty)::l,env,h,K,ho,he,e=>by
   unfold fzv at e
   have go:∀ {zGC h1},Wk P nm (qB env) (qC h.l) (qB zGC) (qC h1.l)->xQ P [i] env h zGC h1->(fzv P nm l zGC h1 K).run=some r->∃ env' h',Wk P nm (qB env) (qC h.l) (qB env') (qC h'.l)∧xQ P (((i,ty)::l).map (·.1)) env h env' h'∧(K env' h').run=some r:=fun a b e=>by
    obtain⟨env',h',c1,c2,c3⟩:=qR9 (l:=l) b.2.1 b.1 e;exact⟨env',h',a.trans c1,b.trans c2,c3⟩
   cases hb2:Nat.ble 2000000000 ty with
   | true =>
     rw[hb2] at e
     cases hb3:Nat.ble 3000000000 ty with
     | true =>
       rw[hb3] at e
       cases hb4:Nat.ble 4000000000 ty with
       | true =>
         rw[hb4] at e
         cases hb5:Nat.ble 5000000000 ty with
         | true =>
           rw[hb5] at e
           cases hb6:Nat.ble 6000000000 ty with
           | true =>
             rw[hb6] at e
             cases hb7:Nat.ble 7000000000000 ty with
             | true =>
               rw[hb7] at e;have e:(qDI P nm [unB (ty - 7000000000000)] env h fun env h=>fzv P nm l env h K).run=some r:=e;obtain⟨h1,a,b,c,e1⟩:=oV (nm:=nm) ho he e;exact go a ⟨qJ b he,c,b,fun _ _=>rfl,rfl⟩ e1
             | false =>
               rw[hb7] at e;have e:(zC0 P i ((ty - 6000000000) / 100000) ((ty - 6000000000) % 100000) env h fun env h=>fzv P nm l env h K).run=some r:=e;obtain⟨zGC,h1,a,b,e1⟩:=q56 (nm:=nm) ho he e;exact go a b e1
           | false =>
             rw[hb6] at e;have e:(zDA i env h fun env h=>fzv P nm l env h K).run=some r:=e;obtain⟨zGC,h1,a,b,e1⟩:=q7G (nm:=nm) ho he e;exact go a b e1
         | false =>
         rw[hb5] at e;have e:(q9K P i ((ty - 4000000000) / 100000) ((ty - 4000000000) % 100000) env h fun env h=>fzv P nm l env h K).run=some r:=e;obtain⟨zGC,h1,a,b,e1⟩:=qVZ (nm:=nm) ho he e;exact go a b e1
       | false =>
         rw[hb4] at e;obtain⟨a,b⟩:=qZM (nm:=nm) (i:=i) ho he;exact go a b e
     | false =>
       rw[hb3] at e;have e:(zCZ P nm i env h fun env h=>fzv P nm l env h K).run=some r:=e;obtain⟨zGC,h1,a,b,e1⟩:=q8U (nm:=nm) ho he e;exact go a b e1
   | false =>
   rw[hb2] at e
   cases hb:Nat.ble 1000000000 ty with
   | true =>
     rw[hb] at e;obtain⟨zGC,h1,a,b,e1⟩:=qA8 (nm:=nm) ho he e;exact go a b e1
   | false =>
     rw[hb] at e;obtain⟨zGC,h1,a,b,e1⟩:=q4L (nm:=nm) ho he e;exact go a b e1
def qGS (P:Program):List Nat->SH->SH
 | [],h=>h
 | kb::l,h=>match slk kb h.l with
   | some (.cells el _ cs)=>(match qDK P 8 el with
     | some t=>(match t.zIW cs with
       | some x=>qGS P l (h.put kb fun v=>.cells el v (t.svs x))
       | none=>qGS P l h)
     | none=>qGS P l h)
   | _=>qGS P l h
theorem o6:∀ {bs:List Nat} {h:SH},OkH P h->Keep h (qGS P bs h)∧OkH P (qGS P bs h)∧∀ l,qA l (qC (qGS P bs h).l)=qA l (qC h.l)
 | [],h,ho=>⟨.refl _,ho,fun _=>rfl⟩
 | kb::bs,h,ho=>by
   unfold qGS;split
   ·rename_i el w cs hk;split
    ·rename_i t ht;split
     ·rename_i x hx;have hp:=vY (k:=kb) (f:=fun v=>.cells el v (t.svs x)) ho hk ⟨rfl,qFU t x⟩;obtain⟨a1,a2,a3⟩:=o6 (bs:=bs) hp.2;refine⟨hp.1.trans a1,a2,fun l=>(a3 l).trans ?_⟩;show qA l (qC (sst kb _ h.l))=_;rw[xX,qZ];split
      ·rename_i e;rw[e.1,zN hk];show some (⟨el,false,qB (t.svs x)⟩:PO)=some ⟨el,false,qB cs⟩;rw[fP,oG hx]
      ·rfl
     ·exact o6 (bs:=bs) ho
    ·exact o6 (bs:=bs) ho
   ·exact o6 (bs:=bs) ho
def qUE (P:Program)(nm:Nm)(bs:List Nat)(bv:List (Nat×Nat×TypeId×Nat))(env:List SV)(h:SH)(K:List SV->SH->zF6 R):zF6 R:=qDI P nm bv env h fun env h=>K env (qGS P bs h)
theorem qKK {bs:List Nat}{l:List (Nat×Nat×TypeId×Nat)}{K:List SV->SH->zF6 R}(ho:OkH P h)(he:okL h env)(e:(qUE P nm bs l env h K).run=some r) :
 ∃ h',Wk P nm (qB env) (qC h.l) (qB env) (qC h'.l)∧Keep h h'∧OkH P h'∧(K env h').run=some r:=by
 obtain⟨h',a1,a2,a3,a4⟩:=oV (nm:=nm) ho he e;obtain⟨b1,b2,b3⟩:=o6 (bs:=bs) a3;exact⟨_,a1.trans (.ext b3),a2.trans b1,b2,a4⟩
end
end Go.Sv
namespace Go.Sv
open Go.Idl
noncomputable section
variable [Gc]
variable [Yl]
variable {P:Program}{R:Type}{r:R}{nm:Nm}
def zFG:SV->Option Ty
 | .d t _=>cond t.one (some t) none
 | .c (.int k _)=>some (.int k)
 | .c (.bool _)=>some .bool
 | .c (.string _)=>some .str
 | _=>none
def tyV:SV->Option Ty
 | .agg l=>tyL (l.map zFG)
 | v=>zFG v
def zD6:List SV->Option (List Ty)
 | []=>some []
 | v::l=>match tyV v,zD6 l with
   | some t,some ts=>some (t::ts)
   | _,_=>none
def zDC (t:Ty)(v:SV):Option t.sem:=cond t.one (t.zKP v) (match v with
 | .agg l=>t.zIW l
 | _=>none)
theorem qRO {t:Ty}{v:SV}{x:t.sem}(e:zDC t v=some x):v.enc=t.pv x:=by
 unfold zDC at e;unfold Ty.pv
 cases ht:t.one with
 | true=>rw[ht] at e;exact (qAO e).1
 | false =>
   rw[ht] at e;simp only[cond_false] at e ⊢;split at e
   ·simp only[SV.enc,oG e]
   ·cases e
def tZ:(ts:List Ty)->List SV->Option (TyL ts)
 | [],[]=>some ()
 | [t],[v]=>zDC t v
 | t::u::ts,v::vs=>match zDC t v with
   | some x=>(match tZ (u::ts) vs with
     | some y=>some (x,y)
     | none=>none)
   | none=>none
 | _,_=>none
theorem bQ:∀ {ts:List Ty} {l:List SV} {s:TyL ts},tZ ts l=some s->qB l=qB (svL ts s)
 | [],[],s,e=>by simp[svL]
 | [t],[v],s,e=>by
   unfold tZ at e;simp only[svL,qB,pK,qRO e]
 | t::u::ts,v::vs,s,e=>by
   unfold tZ at e;split at e
   ·rename_i x hx;split at e
    ·rename_i y hy;cases e;have ih:=bQ hy;show qB (v::vs)=qB (t.sv x::svL (u::ts) y);simp only[qB,pK,qRO hx,ih]
    ·cases e
   ·cases e
 | [],_::_,_,e=>by cases e
 | t::ts,[],_,e=>by cases ts <;> (unfold tZ at e;cases e)
 | [_],_::_::_,_,e=>by unfold tZ at e;cases e
def qH6:List Nat->List SV->Option (List SV)
 | [],_=>some []
 | i::is,env=>match zJ env i,qH6 is env with
   | some v,some l=>some (v::l)
   | _,_=>none
def spD:SpO->Option SV
 | .map es=>some (.d .raw es)
 | .iter s pos=>some (.agg [.d .str s,.d (.int .i64) (pos:Int)])
 | .mit _ _ _ _ _=>none
 | .arr el k xs=>cond (Nat.beq el 1000000001) none (some (.d (.list el (.int k)) xs))
def obD:SO->Option (SV×Bool)
 | .list el gr _ _ u xs=>cond (Nat.beq el 1000000001) none (some (.d (.list el u) xs,gr))
 | .spc _ x=>(spD x).map fun v=>(v,false)
 | .cells _ _ _=>none
def qTZ:List Nat->SH->Option (List SV)
 | [],_=>some []
 | k::ks,h=>match slk k h.l,qTZ ks h with
   | some ob,some l=>(match obD ob with
     | some p=>some (p.1::l)
     | none=>none)
   | _,_=>none
def q7Y:List Nat->SH->Option (List (Nat×Bool))
 | [],_=>some []
 | k::ks,h=>match slk k h.l,q7Y ks h with
   | some ob,some l=>(match obD ob with
     | some p=>some ((k,p.2)::l)
     | none=>none)
   | _,_=>none
def nP (i:Nat):List Nat->Bool
 | []=>false
 | j::l=>cond (Nat.beq i j) true (nP i l)
omit [Yl] in
theorem xM {i:Nat}:∀ {l:List Nat},nP i l=true ↔ i∈l
 | []=>by simp[nP]
 | j::l=>by
   unfold nP;rw[zP6]
   cases h:Nat.beq i j with
   | true=>simp[zPL h]
   | false =>
     have:i≠j:=fun e=>by subst e;rw[aI] at h;cases h
     simp only[cond_false,xM (l:=l),this,false_or]
def blank (W:List Nat):Nat->List SV->List SV
 | _,[]=>[]
 | i,x::l=>cond (nP i W) .unk x::blank W (i+1) l
omit [Yl] in
theorem qCF (W:List Nat):∀ (i:Nat) (l:List SV),(blank W i l).length=l.length
 | _,[]=>rfl
 | i,x::l=>by simp[blank,qCF W (i+1) l]
omit [Yl] in
theorem qDO (W:List Nat):∀ (i j:Nat) (l:List SV),zJ (blank W i l) j=(zJ l j).map fun x=>cond (nP (i+j) W) SV.unk x
 | _,_,[]=>rfl
 | i,0,x::l=>rfl
 | i,j+1,x::l=>by
   show zJ (blank W (i+1) l) j=(zJ l j).map _;rw[qDO W (i+1) j l,zRH,zSC 1 j]
omit [Yl] in
theorem qQ9 {h:SH}{W:List Nat}:∀ {i:Nat} {l:List SV},okL h l->okL h (blank W i l)
 | _,[],_=>by simp[blank,okL]
 | i,x::l,hl=>by
   simp only[okL] at hl;show okL h (cond (nP i W) .unk x::blank W (i+1) l);simp only[okL];refine⟨?_,qQ9 hl.2⟩;cases nP i W
   ·exact hl.1
   ·simp[SV.ok]
def cO:List Nat->List SV->List SV->List SV×List SV
 | [],l,env=>(env,l)
 | i::is,c::l,env=>cO is l (yS env i c)
 | _::_,[],env=>(env,[])
def zCU (el:TypeId):(u:Ty)->List u.sem->Bool->Option (Nat->SO)
 | .int k,xs,false=>cond (Nat.beq el 1000000001) none (some fun v=>.spc v (.arr el k xs))
 | _,_,_=>none
omit [Yl] in
theorem qIW {el:TypeId}:∀ {u:Ty} {xs:List u.sem} {gr:Bool} {f:Nat->SO},zCU el u xs gr=some f->∃ k,∃ ys:List Int,(∀ v,f v=.spc v (.arr el k ys))∧gr=false∧Nat.beq el 1000000001=false∧(⟨u,xs⟩:(u:Ty)×List u.sem)=⟨.int k,ys⟩
 | .int k,xs,false,f,e=>by
   have e:cond (Nat.beq el 1000000001) none (some fun v=>SO.spc v (.arr el k xs))=some f:=e
   cases hc:Nat.beq el 1000000001 with
   | true=>rw[hc] at e;cases e
   | false =>
     rw[hc] at e;cases e;exact⟨k,xs,fun v=>rfl,rfl,rfl,rfl⟩
 | .int k,xs,true,f,e=>by cases e
 | .bool,_,_,_,e=>by cases e
 | .str,_,_,_,e=>by cases e
 | .raw,_,_,_,e=>by cases e
 | .nif,_,_,_,e=>by cases e
 | .unit,_,_,_,e=>by cases e
 | .ol _ _,_,_,_,e=>by cases e
 | .list _ _,_,_,_,e=>by cases e
 | .pair _ _,_,_,_,e=>by cases e
def q9O (P:Program)(gr:Bool):SV->Option (Nat->SO)
 | .d (.list el u) xs=>(match szT P el with
   | some n=>cond (Nat.beq n u.w&&(Nat.ble 1 n&&!Nat.beq el 1000000001)) (some fun v=>.list el gr v v u xs) (zCU el u xs gr)
   | none=>none)
 | .d .raw es=>some fun v=>.spc v (.map es)
 | .agg [.d .str s,.d (.int .i64) p]=>some fun v=>.spc v (.iter s (Int.toNat p))
 | _=>none
def q6Z (P:Program):List (Nat×Bool)->List SV->SH->Option SH
 | [],[]=>fun h=>some h
 | (k,gr)::ks,c::l=>fun h=>(match q9O P gr c with
   | some f=>q6Z P ks l ((h.del k).new k f)
   | none=>none)
 | _,_=>fun _=>none
def mkM:Nat:=1000000000000000
def q5K:List (Nat×Nat)->SH->List SV->Option (List SV)
 | [],_,env=>some env
 | (i,k)::l,h,env=>cond (Nat.ble mkM k) (q5K l h (yS env i (.mp (k - mkM)))) (match slk k h.l with
   | some (.list _ _ g _ _ xs)=>q5K l h (yS env i (.own k g (List.length xs)))
   | _=>none)
def q9U (j:Nat):Bool:=Nat.beq j 1000000000
def zD3 (k w:Nat):SV->Option Bool
 | .ref k' off w'=>cond (Nat.beq k k'&&(Nat.beq off 0&&Nat.beq w w')) (some true) none
 | .c (.pointer none)=>some false
 | .opt b k' off w'=>cond (Nat.beq k k'&&(Nat.beq off 0&&Nat.beq w w')) (some b) none
 | _=>none
theorem q1O {k w:Nat}{v:SV}{b:Bool}(e:zD3 k w v=some b):v.enc=(SV.opt b k 0 w).enc:=by
 have eqs:∀ {k' off w':Nat} {x y:Option Bool},cond (Nat.beq k k'&&(Nat.beq off 0&&Nat.beq w w')) x none=y->y≠none->k=k'∧off=0∧w=w'∧x=y:=fun {k' off w' x y} h hy=>by
  cases hc:(Nat.beq k k'&&(Nat.beq off 0&&Nat.beq w w')) with
  | false=>rw[hc] at h;exact absurd h.symm hy
  | true =>
    rw[hc] at h;simp only[zPK] at hc;exact⟨zPL hc.1,zPL hc.2.1,zPL hc.2.2,h⟩
 unfold zD3 at e;split at e
 ·obtain⟨rfl,rfl,rfl,h⟩:=eqs e (by simp);cases h;simp[SV.enc]
 ·cases e;simp[SV.enc]
 ·obtain⟨rfl,rfl,rfl,h⟩:=eqs e (by simp);cases h;simp[SV.enc]
 ·cases e
def qSR:Nat:=2000000000000000
def q40 (k:Nat):Nat:=cond (Nat.ble qSR k) (k - qSR) k
def zB0:SV->Option Nat
 | .own _ _ n=>some n
 | .sl _ _ _ o m=>cond (Nat.beq o 0) (some m) none
 | _=>none
def qZY (k w:Nat):List (Option Nat)->List SV->Option (List SV)
 | [],[]=>some []
 | none::ds,v::l=>(match qZY k w ds l with
   | some r=>some (v::r)
   | none=>none)
 | some j::ds,v::l=>cond (q9U j) (match zD3 k w v,qZY k w ds l with
   | some b,some r=>some (.d .bool b::r)
   | _,_=>none) (cond (Nat.ble qSR j) (match zB0 v,qZY k w ds l with
   | some m,some r=>some (.d (.int .i64) (m:Int)::r)
   | _,_=>none) (qZY k w ds l))
 | _,_=>none
def qDU (k:Nat)(v:SV)(h:SH):Bool:=match v with
 | .own k' g _=>Nat.beq k' k&&(match slk k' h.l with
   | some (.list _ _ g' _ _ _)=>Nat.beq g g'
   | _=>false)
 | _=>false
def q5E (k:Nat)(v:SV)(h:SH):Bool:=match v with
 | .own k' g n=>qDU k (.own k' g n) h
 | .sl k' g n _ _=>qDU k (.own k' g n) h
 | _=>false
def q4G:List (Option Nat)->List SV->SH->Bool
 | some k::ds,v::l,h=>cond (q9U k) true (cond (Nat.ble qSR k) (q5E (k - qSR) v h) (qDU k v h))&&q4G ds l h
 | none::ds,_::l,h=>q4G ds l h
 | _,_,_=>true
def mkB (kb w:Nat):List (Option Nat)->List SV->SH->Option (List SV×List SV)
 | [],l,_=>some ([],l)
 | none::ds,c::l,h=>(match mkB kb w ds l h with
   | some p=>some (c::p.1,p.2)
   | none=>none)
 | some k::ds,l,h=>cond (q9U k) (match l with
   | c::l'=>(match asB c,mkB kb w ds l' h with
     | some b,some p=>some (.opt b kb 0 w::p.1,p.2)
     | _,_=>none)
   | []=>none) (cond (Nat.ble qSR k) (match l with
   | c::l'=>(match asI c,slk (k - qSR) h.l,mkB kb w ds l' h with
     | some (.i64,m),some (.list _ _ g _ _ xs),some p=>some (.sl (k - qSR) g (List.length xs) 0 (Nat.min (Int.toNat m) (List.length xs))::p.1,p.2)
     | _,_,_=>none)
   | []=>none) (match slk k h.l with
   | some (.list _ _ g _ _ xs)=>(match mkB kb w ds l h with
     | some p=>some (.own k g (List.length xs)::p.1,p.2)
     | none=>none)
   | _=>none))
 | none::_,[],_=>none
def q9G (h1:SH):List (Nat×List (Option Nat))->List SV->SH->Option SH
 | [],_,h=>some h
 | (k,ds)::bs,l,h=>match slk k h1.l with
   | some (.cells el _ _)=>(match mkB k (List.length ds) ds l h with
     | some p=>q9G h1 bs p.2 ((h.del k).new k fun v=>.cells el v p.1)
     | none=>none)
   | _=>none
def qZ0:List (Nat×List (Option Nat))->SH->Option (List SV)
 | [],_=>some []
 | (k,ds)::bs,h=>match slk k h.l with
   | some (.cells _ _ l)=>(match qZY k (List.length ds) ds l,qZ0 bs h with
     | some a,some b=>some (a++b)
     | _,_=>none)
   | _=>none
def nH (L:List Nat)(bs:List (Nat×List (Option Nat)))(h1 h:SH):Bool:=bs.all fun p=>nP p.1 L&&((p.2.all fun x=>match x with
 | some k=>!nP (q40 k) L
 | none=>true)&&(match slk p.1 h1.l,slk p.1 h.l with
 | some (.cells e1 _ _),some (.cells e2 _ l)=>Nat.beq e1 e2&&q4G p.2 l h
 | _,_=>false))
def mkS (P:Program)(W:List Nat)(sh:Sh)(ts:List Ty)(os:List (Nat×Bool))(env:List SV)(h:SH)(s:TyL ts):Option (List SV×SH) :=
 match q6Z P os ((cO sh.d (svL ts s) (blank W 0 env)).2.take os.length) h with
 | some h2=>(match q9G h sh.b ((cO sh.d (svL ts s) (blank W 0 env)).2.drop os.length) h2 with
   | some h3=>(match q5K sh.s h3 (cO sh.d (svL ts s) (blank W 0 env)).1 with
     | some e2=>some (e2,h3)
     | none=>none)
   | none=>none)
 | none=>none
omit [Yl] in
theorem qG7 {l m:List PV}{i:Nat}{x:PV}(h:WkP l m)(hx:zJ l i=some x):WkP l (yS m i x):=by
 rw[qW];rw[qF] at hx
 have hl:l.length=(m.set i x).length:=by
  rw[zQM];clear hx
  induction h with
  | nil=>rfl
  | same _ ih=>simp[ih]
  | any _ ih=>simp[ih]
 have hp:∀ j:Nat,m[j]?=l[j]?∨m[j]?=some PV.unk:=by
  clear hx hl
  induction h with
  | nil=>intro j;exact .inl rfl
  | same _ ih=>intro j;cases j with
    | zero=>exact .inl rfl
    | succ j=>exact ih j
  | any _ ih=>intro j;cases j with
    | zero=>exact .inr rfl
    | succ j=>exact ih j
 refine qR8 hl fun j=>?_
 rw[qF,qF,zQG];by_cases e:i=j
 ·subst e;rw[if_pos rfl];split
  ·exact .inl hx.symm
  ·rename_i hlt;have hlt':i < l.length:=(zPQ.1 hx).1;rw[hl,zQM] at hlt';exact absurd hlt' hlt
 ·rw[if_neg e];exact hp j
theorem qOQ:∀ {is:List Nat} {env l b m rest:List SV},qH6 is env=some l->qB (l++b)=qB m->WkP (qB env) (qB rest)->WkP (qB env) (qB (cO is m rest).1)∧qB (cO is m rest).2=qB b
 | [],env,l,b,m,rest,e,hm,hw=>by
   cases e;exact⟨hw,hm.symm⟩
 | i::is,env,l,b,m,rest,e,hm,hw=>by
   unfold qH6 at e;split at e
   ·rename_i v l' hv hl';cases e
    cases m with
    | nil=>simp[qB] at hm
    | cons c m =>
      simp only[zRM,qB,zQA] at hm;show WkP (qB env) (qB (cO is m (yS rest i c)).1)∧qB (cO is m (yS rest i c)).2=qB b;refine qOQ hl' hm.2 ?_;rw[kH,<-hm.1];exact qG7 hw (by rw[qX,hv];rfl)
   ·cases e
omit [Yl] in
theorem qGV:∀ (is:List Nat) (l env:List SV),(cO is l env).1.length=env.length
 | [],l,env=>rfl
 | i::is,[],env=>rfl
 | i::is,c::l,env=>by
   show (cO is l (yS env i c)).1.length=_;rw[qGV is l,j6]
omit [Yl] in
theorem qM0 {h:SH}:∀ {is:List Nat} {l env:List SV},okL h l->okL h env->okL h (cO is l env).1
 | [],l,env,_,he=>he
 | i::is,[],env,_,he=>he
 | i::is,c::l,env,hl,he=>by
   simp only[okL] at hl;show okL h (cO is l (yS env i c)).1;exact qM0 hl.2 (xK he hl.1)
omit [Yl] in
theorem qGF:∀ {is:List Nat} {l env:List SV} {j:Nat},j ∉ is->zJ (cO is l env).1 j=zJ env j
 | [],l,env,j,_=>rfl
 | i::is,[],env,j,_=>rfl
 | i::is,c::l,env,j,hj=>by
   rw[zP6,not_or] at hj;show zJ (cO is l (yS env i c)).1 j=_;rw[qGF hj.2,qW,qF,qF,zQG,if_neg (fun e=>hj.1 e.symm)]
omit [Yl] in
theorem qL8 {k:Nat}{gr:Bool}{ks:List (Nat×Bool)}{c:SV}{l:List SV}{h h2:SH}(e:q6Z P ((k,gr)::ks) (c::l) h=some h2) :
 ∃ f,q9O P gr c=some f∧q6Z P ks l ((h.del k).new k f)=some h2:=by
 unfold q6Z at e;split at e
 ·rename_i f hf;exact⟨f,hf,e⟩
 ·cases e
omit [Yl] in
theorem q3Y {gr:Bool}{c:SV}{f:Nat->SO}(e:q9O P gr c=some f)(h:SH)(n:Nat):zBB P h n (f n):=by
 unfold q9O at e;split at e
 ·rename_i el u xs;split at e
  ·rename_i m hm
   cases hc:(Nat.beq m u.w&&(Nat.ble 1 m&&!Nat.beq el 1000000001)) with
   | false =>
     rw[hc] at e;obtain⟨k,ys,h1,_⟩:=qIW e;rw[h1];rfl
   | true =>
     rw[hc] at e;cases e;simp only[zPK] at hc;have hw:m=u.w:=zPL hc.1;have h1:=zPU hc.2.1;exact⟨rfl,rfl,by rw[hm,hw],by omega⟩
  ·cases e
 ·cases e;rfl
 ·cases e;rfl
 ·cases e
omit [Yl] in
theorem qNH:∀ {os:List (Nat×Bool)} {l:List SV} {h h2:SH},OkH P h->q6Z P os l h=some h2->Keep h h2∧OkH P h2∧∀ k,k ∉ os.map (·.1)->slk k h2.l=slk k h.l
 | [],[],h,h2,ho,e=>by cases e;exact⟨.refl _,ho,fun _ _=>rfl⟩
 | (k,gr)::ks,c::l,h,h2,ho,e=>by
   obtain⟨f,hf,e1⟩:=qL8 e;have hd:=fO (k:=k) ho;have hn2:=xL (h:=h.del k) (k:=k) (f:=f) hd.2 (q3Y hf _ _);obtain⟨a1,a2,a3⟩:=qNH hn2.2 e1;refine⟨hd.1.trans (hn2.1.trans a1),a2,fun j hj=>?_⟩;rw[zP3,zP6,not_or] at hj;rw[a3 j hj.2];show slk j ((k,_)::(h.del k).l)=_;rw[yA hj.1];exact kX hj.1 _
 | [],_::_,_,_,_,e=>by cases e
 | _::_,[],_,_,_,e=>by cases e
def qZ9:List FV->List (Value×Value)
 | .v k::.v x::l=>(k,x)::qZ9 l
 | _=>[]
omit [Yl] in
theorem qF6:∀ (es:List (Value×Value)),qZ9 (eT es)=es
 | []=>rfl
 | p::es=>by
   show (p.1,p.2)::qZ9 (eT es)=_;rw[qF6 es]
def obE (gr:Bool):PV->Option PO
 | .f (.l el _ cs)=>cond (Nat.beq el 1000000001) (some (SpO.map (qZ9 cs)).enc) (some ⟨el,gr,cs.map .f⟩)
 | .agg [.f (.v (.string s)),.f (.v (.int _ p))]=>some (SpO.iter s p.toNat).enc
 | _=>none
theorem zCO {gr:Bool}{c:SV}{f:Nat->SO}(e:q9O P gr c=some f)(n:Nat):obE gr c.enc=some (f n).enc:=by
 unfold q9O at e;split at e
 ·rename_i el u xs;split at e
  ·rename_i m hm
   cases hc:(Nat.beq m u.w&&(Nat.ble 1 m&&!Nat.beq el 1000000001)) with
   | false =>
     rw[hc] at e;obtain⟨k,ys,h1,rfl,h2,h3⟩:=qIW e;cases h3;rw[h1];simp only[SV.enc,Ty.fv,obE,h2,cond_false];show some (PO.mk el false ((List.flatMap (Ty.int k).cells ys).map .f))=some ⟨el,false,ys.map fun x=>fvv (.int k x)⟩;rw[q0Q,zRR];rfl
   | true =>
     rw[hc] at e;cases e;simp only[zPK,zQH] at hc;simp only[SV.enc,Ty.fv,obE,hc.2.2,cond_false];rfl
  ·cases e
 ·rename_i es;cases e;simp only[SV.enc,Ty.fv,obE];show cond (Nat.beq 1000000001 1000000001) _ _=_;rw[qF6];rfl
 ·cases e;simp only[SV.enc,qB,Ty.fv,obE];rfl
 ·cases e
theorem zDZ {ob:SO}{p:SV×Bool}(e:obD ob=some p):obE p.2 p.1.enc=some ob.enc:=by
 unfold obD at e;split at e
 ·rename_i el gr g w u xs
  cases hc:Nat.beq el 1000000001 with
  | true=>rw[hc] at e;cases e
  | false =>
    rw[hc] at e;cases e;simp only[SV.enc,Ty.fv,obE,hc,cond_false];rfl
 ·rename_i w x
  cases x with
  | map es =>
    cases e;simp only[SV.enc,Ty.fv,obE];show cond (Nat.beq 1000000001 1000000001) _ _=_;rw[qF6];rfl
  | iter s pos =>
    cases e;simp only[SV.enc,qB,Ty.fv,obE];rfl
  | mit t j si la seen=>cases e
  | arr el ik xs =>
    have e:(cond (Nat.beq el 1000000001) none (some (SV.d (.list el (.int ik)) xs))).map (fun v=>(v,false))=some p:=e
    cases hc:Nat.beq el 1000000001 with
    | true=>rw[hc] at e;cases e
    | false =>
      rw[hc] at e;cases e;simp only[SV.enc,Ty.fv,obE,hc,cond_false];show some (PO.mk el false ((List.flatMap (Ty.int ik).cells xs).map .f))=some ⟨el,false,xs.map fun x=>fvv (.int ik x)⟩;rw[q0Q,zRR];rfl
 ·cases e
theorem qR3 {q:PHp}{B:Nat->Prop}:∀ {os:List (Nat×Bool)} {l:List SV} {h h2:SH},q6Z P os l h=some h2->(∀ k o,¬ B k->k ∉ os.map (·.1)->slk k h.l=some o->qA k q=some o.enc) ->
 (∀ (i:Nat) k gr c,os[i]?=some (k,gr)->l[i]?=some c->qA k q=obE gr c.enc)->∀ k o,¬ B k->slk k h2.l=some o->qA k q=some o.enc
 | [],[],h,h2,e,h0,_,k,o,hB,hk=>by
   cases e;exact h0 k o hB (by simp) hk
 | (j,gr)::ks,c::l,h,h2,e,h0,h1,k,o,hB,hk=>by
   obtain⟨f,hf,e1⟩:=qL8 e;refine qR3 (q:=q) (B:=B) e1 (fun k2 o2 hB2 hk2 ho2=>?_) (fun i k2 gr2 c2 a1 a2=>h1 (i+1) k2 gr2 c2 (by simpa using a1) (by simpa using a2)) k o hB hk;by_cases hj:k2=j
   ·subst hj;rw[show slk k2 ((h.del k2).new k2 f).l=some (f (h.del k2).next) from jL] at ho2;cases ho2;rw[h1 0 k2 gr c rfl rfl];exact zCO hf _
   ·rw[show slk k2 ((h.del j).new j f).l=slk k2 (h.del j).l from yA hj,show slk k2 (h.del j).l=slk k2 h.l from kX hj _] at ho2;exact h0 k2 o2 hB2 (by rw[zP3,zP6,not_or];exact⟨hj,hk2⟩) ho2
 | [],_::_,_,_,e,_,_,_,_,_,_=>by cases e
 | _::_,[],_,_,e,_,_,_,_,_,_=>by cases e
omit [Yl] in
theorem qDM {h:SH}:∀ {is:List Nat} {l env:List SV},okL h l->okL h (cO is l env).2
 | [],l,env,hl=>hl
 | i::is,[],env,_=>by simp[cO,okL]
 | i::is,c::l,env,hl=>by
   simp only[okL] at hl;show okL h (cO is l (yS env i c)).2;exact qDM hl.2
omit [Yl] in
theorem qRK {h:SH}{l:List SV}(n:Nat)(hl:okL h l):okL h (l.drop n):=zL.2 fun x hx=>zL.1 hl x (zSJ hx)
theorem qWD (l:List SV)(n:Nat):qB (l.take n)=(qB l).take n:=by rw[zH,zH,zRQ]
theorem qY0 (l:List SV)(n:Nat):qB (l.drop n)=(qB l).drop n:=by rw[zH,zH,zRV]
omit [Yl] in
theorem qOY {h:SH}(ho:OkH P h):∀ {l:List (Nat×Nat)} {env e2:List SV},okL h env->q5K l h env=some e2->okL h e2∧e2.length=env.length∧∀ j,j ∉ l.map (·.1)->zJ e2 j=zJ env j
 | [],env,e2,he,e=>by cases e;exact⟨he,rfl,fun _ _=>rfl⟩
 | (i,k)::l,env,e2,he,e=>by
   unfold q5K at e
   cases hmk:Nat.ble mkM k with
   | true =>
     rw[hmk] at e;simp only[cond_true] at e;obtain⟨a1,a2,a3⟩:=qOY ho (xK (t:=i) he (v:=.mp (k - mkM)) (by simp[SV.ok])) e;refine⟨a1,a2.trans (j6 _ _ _),fun j hj=>?_⟩;rw[zP3,zP6,not_or] at hj;rw[a3 j hj.2,qW,qF,qF,zQG,if_neg (fun e=>hj.1 e.symm)]
   | false =>
   rw[hmk] at e;simp only[cond_false] at e;split at e
   ·rename_i el gr g w u xs hk;have hg:=(ho.list _ _ _ _ _ _ _ hk).1
    have hok:(SV.own k g (List.length xs)).ok h:=by
     simp only[SV.ok];exact⟨hg,fun el2 gr2 w2 t2 xs2 hk2=>by rw[hk] at hk2;cases hk2;rfl⟩
    obtain⟨a1,a2,a3⟩:=qOY ho (xK (t:=i) he hok) e;refine⟨a1,a2.trans (j6 _ _ _),fun j hj=>?_⟩;rw[zP3,zP6,not_or] at hj;rw[a3 j hj.2,qW,qF,qF,zQG,if_neg (fun e=>hj.1 e.symm)]
   ·cases e
omit [Yl] in
theorem qFC {kb w:Nat}{h:SH}(ho:OkH P h):∀ {ds:List (Option Nat)} {l:List SV} {p:List SV×List SV},okL h l->mkB kb w ds l h=some p->okL h p.1∧okL h p.2
 | [],l,p,hl,e=>by cases e;exact⟨by simp[okL],hl⟩
 | none::ds,c::l,p,hl,e=>by
   unfold mkB at e;simp only[okL] at hl;split at e
   ·rename_i q hq;cases e;have ih:=qFC ho hl.2 hq;exact⟨by simp only[okL];exact⟨hl.1,ih.1⟩,ih.2⟩
   ·cases e
 | some k::ds,l,p,hl,e=>by
   unfold mkB at e
   cases hm:q9U k with
   | true =>
     rw[hm] at e;simp only[cond_true] at e;split at e
     ·simp only[okL] at hl;split at e
      ·rename_i b q hb hq;cases e;have ih:=qFC ho hl.2 hq;exact⟨by simp only[okL];exact⟨by simp[SV.ok],ih.1⟩,ih.2⟩
      ·cases e
     ·cases e
   | false =>
   rw[hm] at e;simp only[cond_false] at e
   cases hpt:Nat.ble qSR k with
   | true =>
     rw[hpt] at e;simp only[cond_true] at e;split at e
     ·simp only[okL] at hl;split at e
      ·rename_i m el gr g w u xs q hi hk hq;cases e;have ih:=qFC ho hl.2 hq;have hg:=(ho.list _ _ _ _ _ _ _ hk).1;refine⟨?_,ih.2⟩;simp only[okL,SV.ok];exact⟨⟨⟨hg,fun el2 gr2 w2 t2 xs2 hk2=>by rw[hk] at hk2;cases hk2;rfl⟩,by rw[zP4];exact Nat.min_le_right _ _⟩,ih.1⟩
      ·cases e
     ·cases e
   | false =>
   rw[hpt] at e;simp only[cond_false] at e;split at e
   ·rename_i el gr g w u xs hk;split at e
    ·rename_i q hq;cases e;have ih:=qFC ho hl hq;have hg:=(ho.list _ _ _ _ _ _ _ hk).1;refine⟨?_,ih.2⟩;simp only[okL,SV.ok];exact⟨⟨hg,fun el2 gr2 w2 t2 xs2 hk2=>by rw[hk] at hk2;cases hk2;rfl⟩,ih.1⟩
    ·cases e
   ·cases e
 | none::_,[],_,_,e=>by cases e
omit [Yl] in
theorem qO2 {h1:SH}:∀ {bs:List (Nat×List (Option Nat))} {l:List SV} {h h2:SH},OkH P h->okL h l->q9G h1 bs l h=some h2->Keep h h2∧OkH P h2∧∀ k,k ∉ bs.map (·.1)->slk k h2.l=slk k h.l
 | [],l,h,h2,ho,hl,e=>by cases e;exact⟨.refl _,ho,fun _ _=>rfl⟩
 | (k,ds)::bs,l,h,h2,ho,hl,e=>by
   unfold q9G at e;split at e
   ·rename_i el w0 l0 hk0;split at e
    ·rename_i p hp;obtain⟨m1,m2⟩:=qFC ho hl hp;have hd:=fO (k:=k) ho;have hn2:=xL (h:=h.del k) (k:=k) (f:=fun v=>.cells el v p.1) hd.2 ⟨rfl,qJ hd.1 m1⟩;obtain⟨a1,a2,a3⟩:=qO2 hn2.2 (qJ hn2.1 (qJ hd.1 m2)) e;refine⟨hd.1.trans (hn2.1.trans a1),a2,fun j hj=>?_⟩;rw[zP3,zP6,not_or] at hj;rw[a3 j hj.2];show slk j ((k,_)::(h.del k).l)=_;rw[yA hj.1];exact kX hj.1 _
    ·cases e
   ·cases e
theorem qIB {h h2:SH}(ho:OkH P h)(ho2:OkH P h2){k:Nat}{v:SV}{el:TypeId}{gr:Bool}{g w:Nat}{u:Ty}{xs:List u.sem}(hv:v.ok h)(c:qDU k v h=true)(hk:slk k h2.l=some (.list el gr g w u xs))(h1:qA k (qC h.l)=some (SO.list el gr g w u xs).enc) :
 v.enc=(SV.own k g xs.length).enc:=by
 unfold qDU at c;split at c
 ·rename_i k' g' n';rw[zPK] at c;have hkk:k'=k:=zPL c.1;subst hkk;have c2:=c.2;split at c2
  ·rename_i el3 gr3 g3 w3 u3 xs3 hk3;have hg:g'=g3:=zPL c2;subst hg;simp only[SV.ok] at hv;have hn:=hv.2 _ _ _ _ _ hk3;rw[zN hk3] at h1;have h1:=zQJ h1;have e1:el3=el:=congrArg PO.el h1
   have e2':xs3.length*u3.w=xs.length*u.w:=by
    have:=congrArg (fun o:PO=>o.cs.length) h1;simp only[qV] at this;exact this
   have l1:=ho.list _ _ _ _ _ _ _ hk3;have l2:=ho2.list _ _ _ _ _ _ _ hk
   have hww:u3.w=u.w:=by
    have a1:=l1.2.1;have a2:=l2.2.1;rw[e1,a2] at a1;exact (zQJ a1).symm
   have hlen:xs3.length=xs.length:=by
    rw[hww] at e2';exact Nat.eq_of_mul_eq_mul_right l2.2.2 e2'
   simp only[SV.enc,hn,hlen]
  ·cases c2
 ·cases c
theorem qB6 {kb w:Nat}{hn h:SH}(hon:OkH P hn)(ho:OkH P h):∀ {ds:List (Option Nat)} {l ln dl rest:List SV} {p:List SV×List SV},mkB kb w ds l h=some p->qZY kb w ds ln=some dl->q4G ds ln hn=true->qB (dl++rest)=qB l->okL hn ln ->
 (∀ k o,some k∈ds->slk (q40 k) h.l=some o->qA (q40 k) (qC hn.l)=some o.enc)->qB p.1=qB ln∧qB p.2=qB rest
 | [],l,ln,dl,rest,p,e,ec,eo,hl,hok,hq=>by
   cases e
   cases ln with
   | nil=>cases ec;exact⟨rfl,hl.symm⟩
   | cons _ _=>cases ec
 | none::ds,c::l,ln,dl,rest,p,e,ec,eo,hl,hok,hq=>by
   unfold mkB at e;split at e
   ·rename_i q hm;cases e
    cases ln with
    | nil=>cases ec
    | cons v ln =>
      unfold qZY at ec;split at ec
      ·rename_i r hr;cases ec;simp only[zRM,qB,zQA] at hl;simp only[okL] at hok;obtain⟨a1,a2⟩:=qB6 hon ho hm hr (by unfold q4G at eo;exact eo) hl.2 hok.2 fun k o hk ho=>hq k o (zPS _ hk) ho
       exact⟨by simp only[qB,a1,hl.1],a2⟩
      ·cases ec
   ·cases e
 | some k::ds,l,ln,dl,rest,p,e,ec,eo,hl,hok,hq=>by
   unfold mkB at e
   cases hmk:q9U k with
   | true =>
     rw[hmk] at e;simp only[cond_true] at e;split at e
     case h_2=>cases e
     rename_i c l';split at e
     case h_2=>cases e
     rename_i b q hb hm;cases e
     cases ln with
     | nil=>cases ec
     | cons v ln =>
       unfold qZY at ec;rw[hmk] at ec;simp only[cond_true] at ec;split at ec
       case h_2=>cases ec
       rename_i b2 r hb2 hr;cases ec;simp only[okL] at hok;unfold q4G at eo;rw[zPK] at eo;simp only[zRM,qB,zQA] at hl;obtain⟨a1,a2⟩:=qB6 hon ho hm hr eo.2 hl.2 hok.2 fun k o hk ho=>hq k o (zPS _ hk) ho
       refine⟨?_,a2⟩
       have hbb:b2=b:=by
        have:=hl.1;rw[sS hb] at this;simp only[SV.enc,Ty.fv,fvv] at this;injection this with this;injection this with this;injection this
       simp only[qB,a1,q1O hb2,hbb]
   | false =>
   rw[hmk] at e;simp only[cond_false] at e
   cases hpt:Nat.ble qSR k with
   | true =>
     have hun:q40 k=k - qSR:=by unfold q40;rw[hpt,cond_true]
     rw[hpt] at e;simp only[cond_true] at e;split at e
     case h_2=>cases e
     rename_i c l';split at e
     case h_2=>cases e
     rename_i m el gr g w u xs q hi hk hm;cases e
     cases ln with
     | nil=>cases ec
     | cons v ln =>
       unfold qZY at ec;rw[hmk,hpt] at ec;simp only[cond_true,cond_false] at ec;split at ec
       case h_2=>cases ec
       rename_i m2 r hm2 hr;cases ec;simp only[okL] at hok;unfold q4G at eo;rw[hmk,hpt,zPK] at eo;simp only[cond_true,cond_false] at eo;simp only[zRM,qB,zQA] at hl;obtain⟨a1,a2⟩:=qB6 hon ho hm hr eo.2 hl.2 hok.2 fun k o hk ho=>hq k o (zPS _ hk) ho
       refine⟨?_,a2⟩
       have hmm:(m2:Int)=m:=by
        have:=hl.1;rw[yD hi] at this;simp only[SV.enc,Ty.fv,fvv] at this;injection this with this;injection this with this;injection this
       have hpl:=hq k _ zPX (by rw[hun];exact hk);rw[hun] at hpl;simp only[qB,a1]
       congr 1
       have fin:∀ {k' g' n':Nat},qZH hn k' g' n'->qDU (k - qSR) (.own k' g' n') hn=true->m2<=n'->(SV.sl (k - qSR) g xs.length 0 (Nat.min m.toNat xs.length)).enc=PV.own k' n' 0 m2:=fun {k' g' n'} h1 h2 h3=>by
        have:=qIB hon ho (v:=.own k' g' n') (by simp only[SV.ok];exact h1) h2 hk hpl;simp only[SV.enc] at this;injection this with b1 b2 b3 b4
        have hmin:Nat.min m.toNat xs.length=m2:=by
         rw[<-hmm,zQ2];exact zRA (by omega)
        simp only[SV.enc,hmin,b1,b2]
       have e1:=eo.1;have o1:=hok.1;unfold q5E at e1;unfold zB0 at hm2;split at e1
       ·cases hm2;simp only[SV.ok] at o1;rw[fin o1 e1 (zPM _)];simp only[SV.enc]
       ·rename_i k' g' n' o' m'
        cases h0:Nat.beq o' 0 with
        | false=>simp only[h0,cond_false] at hm2;cases hm2
        | true =>
          simp only[h0,cond_true] at hm2;cases hm2;have h0:=zPL h0;subst h0;simp only[SV.ok] at o1;rw[fin o1.1 e1 (by omega)];simp only[SV.enc]
       ·cases e1
   | false =>
   have hun:q40 k=k:=by unfold q40;rw[hpt,cond_false]
   rw[hpt] at e;simp only[cond_false] at e;split at e
   ·rename_i el gr g w u xs hk;split at e
    ·rename_i q hm;cases e
     cases ln with
     | nil=>cases ec
     | cons v ln =>
       unfold qZY at ec;rw[hmk,hpt] at ec;simp only[cond_false] at ec;simp only[okL] at hok;unfold q4G at eo;rw[hmk,hpt,zPK] at eo;simp only[cond_false] at eo;obtain⟨a1,a2⟩:=qB6 hon ho hm ec eo.2 hl hok.2 fun k o hk ho=>hq k o (zPS _ hk) ho
       refine⟨?_,a2⟩;simp only[qB,a1];rw[qIB hon ho hok.1 eo.1 hk (by have:=hq k _ zPX (by rw[hun];exact hk);rw[hun] at this;exact this)]
    ·cases e
   ·cases e
 | none::_,[],_,_,_,_,e,_,_,_,_,_=>by cases e
theorem qQ1 {hn h1:SH}{L:List Nat}(hon:OkH P hn):∀ {bs:List (Nat×List (Option Nat))} {l c rest:List SV} {h h2:SH},OkH P h->okL h l->q9G h1 bs l h=some h2->qZ0 bs hn=some c->qB (c++rest)=qB l->nH L bs h1 hn=true ->
 (∀ k o,slk k h.l=some o->k ∉ bs.map (·.1)->qA k (qC hn.l)=some o.enc)->(∀ k o,slk k h.l=some o->k ∉ L->qA k (qC hn.l)=some o.enc)->∀ k o,slk k h2.l=some o->qA k (qC hn.l)=some o.enc
 | [],l,c,rest,h,h2,ho,hl,e,ec,hc,hb,hq,_,k,o,hk=>by
   cases e;exact hq k o hk (by simp)
 | (j,ds)::bs,l,c,rest,h,h2,ho,hl,e,ec,hc,hb,hq,hqL,k,o,hk=>by
   unfold nH at hb;rw[zQY,zPK,zPK,zPK] at hb;obtain⟨⟨b0,b1,b2⟩,b3⟩:=hb;unfold q9G at e;split at e
   case h_2=>cases e
   rename_i el w0 l0 hk0;split at e
   case h_2=>cases e
   rename_i p hp;rw[hk0] at b2;simp only at b2;unfold qZ0 at ec;split at ec
   case h_2=>cases ec
   rename_i el2 w2 ln hkn;rw[hkn] at b2;simp only[zPK] at b2;split at ec
   case h_2=>cases ec
   rename_i a b ha hb2;cases ec;have hel:el=el2:=zPL b2.1;subst hel;obtain⟨m1,m2⟩:=qFC ho hl hp
   obtain⟨q1,q2⟩:=qB6 hon ho hp ha b2.2 (rest:=b++rest) (by rw[<-zQK];exact hc) (hon.cells _ _ _ _ hkn) (fun k o hk ho2=>hqL (q40 k) o ho2 fun hm=>by
    have:=zPN.1 b1 (some k) hk;simp only[xM.2 hm] at this
    cases this)
   have hd:=fO (k:=j) ho;have hn2:=xL (h:=h.del j) (k:=j) (f:=fun v=>.cells el v p.1) hd.2 ⟨rfl,qJ hd.1 m1⟩
   have look:∀ i,i≠j->slk i ((h.del j).new j fun v=>.cells el v p.1).l=slk i h.l:=fun i hi=>by
    show slk i ((j,_)::(h.del j).l)=_;rw[yA hi];exact kX hi _
   have zK8:slk j ((h.del j).new j fun v=>.cells el v p.1).l=some (.cells el (h.del j).next p.1):=jL
   have zHU:qA j (qC hn.l)=some (SO.cells el (h.del j).next p.1).enc:=by
    rw[zN hkn];simp[SO.enc,q1]
   refine qQ1 hon (bs:=bs) (c:=b) (rest:=rest) hn2.2 (qJ hn2.1 (qJ hd.1 m2)) e hb2 q2.symm b3 (fun i o2 hi hni=>?_) (fun i o2 hi hni=>?_) k o hk
   ·by_cases hij:i=j
    ·subst hij;rw[zK8] at hi;cases hi;exact zHU
    ·rw[look i hij] at hi;exact hq i o2 hi (by rw[zP3,zP6,not_or];exact⟨hij,hni⟩)
   ·by_cases hij:i=j
    ·subst hij;rw[zK8] at hi;cases hi;exact zHU
    ·rw[look i hij] at hi;exact hqL i o2 hi hni
end
end Go.Sv
namespace Go.Sv
open Go.Idl
noncomputable section
variable [Gc]
variable [Yl]
variable {P:Program}{R:Type}{r:R}{nm:Nm}
def qT4 (os:List (Nat×Bool))(h:SH):Bool:=os.all fun p=>match slk p.1 h.l with
 | some ob=>(match obD ob with
   | some q=>q.2==p.2
   | none=>false)
 | none=>false
def qKT (l:List (Nat×Nat))(env:List SV)(h:SH):Bool:=l.all fun p=>cond (Nat.ble mkM p.2) (match zJ env p.1 with
 | some (.mp k)=>Nat.beq k (p.2 - mkM)
 | _=>false) (match zJ env p.1 with
 | some (.own k g _)=>Nat.beq k p.2&&(match slk k h.l with
   | some (.list _ _ g' _ _ _)=>Nat.beq g g'
   | _=>false)
 | _=>false)
def mG (ls:List Nat)(hh h:SH):Bool:=hh.l.all fun p=>nP p.1 ls||(match slk p.1 h.l with
 | some o=>Nat.beq o.w p.2.w||(match slk p.1 hh.l with
   | some q=>Nat.beq o.w q.w
   | none=>false)
 | none=>false)
omit [Yl] in
theorem qN1 {k:Nat}{o:SO}:∀ {l:List (Nat×SO)},slk k l=some o->(k,o)∈l
 | (j,p)::l,h=>by
   have h1:cond (k==j) (some p) (slk k l)=some o:=h;clear h
   cases hj:k==j with
   | true =>
     rw[hj] at h1;have h2:p=o:=zQJ h1;have:k=j:=by simpa using hj
     rw[this,h2];exact zPX
   | false =>
     rw[hj] at h1;exact zPS _ (qN1 (l:=l) h1)
omit [Yl] in
theorem qGA:∀ {ks:List Nat} {h:SH} {os:List (Nat×Bool)},q7Y ks h=some os->os.map (·.1)=ks
 | [],h,os,e=>by cases e;rfl
 | k::ks,h,os,e=>by
   unfold q7Y at e;split at e
   ·rename_i hk hl;split at e
    ·cases e;rw[zP3,qGA hl]
    ·cases e
   ·cases e
omit [Yl] in
theorem qNB:∀ {ks:List Nat} {h:SH} {os:List (Nat×Bool)},q7Y ks h=some os->qT4 os h=true
 | [],h,os,e=>by cases e;rfl
 | k::ks,h,os,e=>by
   unfold q7Y at e;split at e
   ·rename_i ob os' hk hl;split at e
    ·rename_i p hp;cases e;have ih:=qNB hl;unfold qT4 at ih ⊢;rw[zQY,ih];simp only[hk,hp];simp
    ·cases e
   ·cases e
omit [Yl] in
theorem qVU:∀ {ks:List Nat} {h:SH} {b:List SV},qTZ ks h=some b->∀ (i:Nat) k,ks[i]?=some k->∃ ob p,slk k h.l=some ob∧obD ob=some p∧b[i]?=some p.1
 | [],h,b,e,i,k,hk=>by simp at hk
 | j::ks,h,b,e,i,k,hk=>by
   unfold qTZ at e;split at e
   ·rename_i ob l hj hl;split at e
    ·rename_i p hp;cases e
     cases i with
     | zero =>
       simp at hk;subst hk;exact⟨ob,p,hj,hp,rfl⟩
     | succ i=>exact qVU hl i k (by simpa using hk)
    ·cases e
   ·cases e
omit [Yl] in
theorem qQO:∀ {ks:List Nat} {h:SH} {b:List SV},qTZ ks h=some b->b.length=ks.length
 | [],h,b,e=>by cases e;rfl
 | k::ks,h,b,e=>by
   unfold qTZ at e;split at e
   ·rename_i hk hl;split at e
    ·cases e;simp only[zP5,qQO hl]
    ·cases e
   ·cases e
theorem qOX {h h2:SH}{env:List SV}(ho:OkH P h)(ho2:OkH P h2)(hs:∀ k o,slk k h2.l=some o->qA k (qC h.l)=some o.enc)(hen:okL h env):∀ {l:List (Nat×Nat)} {m e2:List SV},qKT l env h=true->q5K l h2 m=some e2->WkP (qB env) (qB m)->WkP (qB env) (qB e2)
 | [],m,e2,_,e,hw=>by cases e;exact hw
 | (i,k)::l,m,e2,hc,e,hw=>by
   unfold qKT at hc;rw[zQY,zPK] at hc;unfold q5K at e;have c0:=hc.1;simp only at c0
   cases hmk:Nat.ble mkM k with
   | true =>
     rw[hmk] at e c0;simp only[cond_true] at e c0;refine qOX ho ho2 hs hen hc.2 e ?_;split at c0
     ·rename_i k' hi;have hkk:=zPL c0;rw[kH];refine qG7 hw ?_;rw[qX,hi,hkk];rfl
     ·cases c0
   | false =>
   rw[hmk] at e c0;simp only[cond_false] at e c0;split at e
   ·rename_i el gr g w u xs hk;refine qOX ho ho2 hs hen hc.2 e ?_;have c1:=c0;split at c1
    ·rename_i k' g' n' hi;have c3:qDU k (.own k' g' n') h=true:=c1;rw[kH];refine qG7 hw ?_;rw[qX,hi];show some (SV.own k' g' n').enc=_;rw[qIB ho ho2 (nG hen hi) c3 hk (hs k _ hk)]
    ·cases c1
   ·cases e
theorem qR0 {W:List Nat}{sh:Sh}{ts:List Ty}{os:List (Nat×Bool)}{zGC e2 b c:List SV}{h1 h h2:SH}{s:TyL ts}(ho:OkH P h)(ho1:OkH P h1)
 (hb:qTZ sh.o h=some b) (hcB:qZ0 sh.b h=some c) (w2:qB (cO sh.d (svL ts s) (blank W 0 zGC)).2=qB (b++c)) (hm:mkS P W sh ts os zGC h1 s=some (e2,h2)) (hos:os.map (·.1)=sh.o) (hgr:qT4 os h=true) (hbx:nH (sh.b.map (·.1)) sh.b h1 h=true)
 (hkept:∀ k o,k ∉ sh.o->k ∉ sh.b.map (·.1)->slk k h1.l=some o->qA k (qC h.l)=some o.enc) :
 OkH P h2∧q5K sh.s h2 (cO sh.d (svL ts s) (blank W 0 zGC)).1=some e2∧∀ k o,slk k h2.l=some o->qA k (qC h.l)=some o.enc:=by
 unfold mkS at hm;split at hm
 case h_2=>cases hm
 rename_i h3 hso;split at hm
 case h_2=>cases hm
 rename_i h4 hsb;split at hm
 case h_2=>cases hm
 rename_i e3 hss;cases hm;have hlen:os.length=b.length:=by rw[qQO hb,<-hos,zPR]
 have t1:qB ((cO sh.d (svL ts s) (blank W 0 zGC)).2.take os.length)=qB b:=by
  rw[qWD,w2,zH,zH,zQX,hlen,<-zPR (as:=b) (f:=SV.enc),List.take_left]
 have t2:qB ((cO sh.d (svL ts s) (blank W 0 zGC)).2.drop os.length)=qB c:=by
  rw[qY0,w2,zH,zH,zQX,hlen,<-zPR (as:=b) (f:=SV.enc),List.drop_left]
 have zK9:∀ k o,¬ k∈sh.b.map (·.1)->slk k h3.l=some o->qA k (qC h.l)=some o.enc:=by
  refine qR3 (B:=fun k=>k∈sh.b.map (·.1)) hso (fun k o hB hk hk2=>hkept k o (by rw[<-hos];exact hk) hB hk2) ?_;intro i k gr x hi hx;have hki:sh.o[i]?=some k:=by rw[<-hos,zP0,hi];rfl
  obtain⟨ob,p,q1,q0,q2⟩:=qVU hb i k hki
  have hce:x.enc=p.1.enc:=by
   have e1:(qB b)[i]?=some p.1.enc:=by rw[zH,zP0,q2];rfl
   rw[<-t1,zH,zP0,hx] at e1;exact zQJ e1
  have hg:p.2=gr:=by
   unfold qT4 at hgr;have:=zPN.1 hgr (k,gr) (zQQ hi);simp only[q1,q0] at this;simpa using this
  rw[hce,zN q1,<-hg,zDZ q0]
 obtain⟨k3,ho3,_⟩:=qNH ho1 hso;have hrest:okL h3 ((cO sh.d (svL ts s) (blank W 0 zGC)).2.drop os.length):=qRK _ (qDM (qC4 ts s));have hsub:=qQ1 (L:=sh.b.map (·.1)) ho (c:=c) (rest:=[]) ho3 hrest hsb hcB (by rw[zRF];exact t2.symm) hbx (fun k o hk hn=>zK9 k o hn hk) (fun k o hk hn=>zK9 k o hn hk);obtain⟨_,ho4,_⟩:=qO2 ho3 hrest hsb;exact⟨ho4,hss,hsub⟩
theorem qC3 {h h2:SH}(hsub:∀ k o,slk k h2.l=some o->qA k (qC h.l)=some o.enc):oU (qC h2.l) (qC h.l):=fun k ob hk=>by
 rw[vJ] at hk;obtain⟨o,h1,h2⟩:=zPV.1 hk;rw[hsub k o h1,h2]
theorem q1T {W:List Nat}{sh:Sh}{ts:List Ty}{os:List (Nat×Bool)}{zGC env e2 a b c:List SV}{h1 h h2:SH}{s:TyL ts}(ho:OkH P h)(ho1:OkH P h1)(hen:okL h env)
 (ha:qH6 sh.d env=some a) (hb:qTZ sh.o h=some b) (hcB:qZ0 sh.b h=some c) (hd:tZ ts (a++(b++c))=some s) (hm:mkS P W sh ts os zGC h1 s=some (e2,h2)) (hos:os.map (·.1)=sh.o) (hgr:qT4 os h=true) (hown:qKT sh.s env h=true) (hbx:nH (sh.b.map (·.1)) sh.b h1 h=true)
 (hkept:∀ k o,k ∉ sh.o->k ∉ sh.b.map (·.1)->slk k h1.l=some o->qA k (qC h.l)=some o.enc) (hbl:WkP (qB env) (qB (blank W 0 zGC))) :
 WkP (qB env) (qB e2)∧oU (qC h2.l) (qC h.l):=by
 have hde:=bQ hd;obtain⟨w1,w2⟩:=qOQ (m:=svL ts s) ha hde hbl;obtain⟨ho4,hss,hsub⟩:=qR0 ho ho1 hb hcB w2 hm hos hgr hbx hkept;exact⟨qOX ho ho4 hsub hen hown hss w1,qC3 hsub⟩
theorem u6 {W:List Nat}{sh:Sh}{ts:List Ty}{os:List (Nat×Bool)}{zGC e2:List SV}{h1 h2:SH}{s:TyL ts}(ho1:OkH P h1)(he1:okL h1 zGC)(hm:mkS P W sh ts os zGC h1 s=some (e2,h2)) :
 Keep h1 h2∧OkH P h2∧okL h2 e2∧e2.length=zGC.length∧(∀ j,j ∉ W->j ∉ sh.d->j ∉ sh.s.map (·.1)->zJ (qB e2) j=zJ (qB zGC) j)∧∀ k,k ∉ os.map (·.1)->k ∉ sh.b.map (·.1)->slk k h2.l=slk k h1.l:=by
 unfold mkS at hm;split at hm
 case h_2=>cases hm
 rename_i h3 hso;split at hm
 case h_2=>cases hm
 rename_i h4 hsb;split at hm
 case h_2=>cases hm
 rename_i e3 hss;cases hm;obtain⟨a1,a2,a3⟩:=qNH ho1 hso;have hrest:okL h3 ((cO sh.d (svL ts s) (blank W 0 zGC)).2.drop os.length):=qRK _ (qDM (qC4 ts s));obtain⟨c1,c2,c3⟩:=qO2 a2 hrest hsb;have hok:okL h2 (cO sh.d (svL ts s) (blank W 0 zGC)).1:=qM0 (qC4 ts s) (qQ9 (qJ c1 (qJ a1 he1)));obtain⟨b1,b2,b3⟩:=qOY c2 hok hss;refine⟨a1.trans c1,c2,b1,by rw[b2,qGV,qCF],fun j hj hjd hjs=>?_,fun k hk hk2=>(c3 k hk2).trans (a3 k hk)⟩;rw[qX,qX,b3 j hjs,qGF hjd,qDO]
 have:nP (0+j) W=false:=by
  cases hq:nP (0+j) W with
  | false=>rfl
  | true=>rw[zP4] at hq;exact absurd (xM.1 hq) hj
 rw[this];cases zJ zGC j <;> rfl
theorem qAQ {W:List Nat}{env zGC:List SV}(hl:env.length=zGC.length)(h:∀ i,i ∉ W->zJ (qB env) i=zJ (qB zGC) i):WkP (qB env) (qB (blank W 0 zGC)):=by
 refine qR8 (by rw[qQ,qQ,qCF,hl]) fun i=>?_
 rw[qX (blank W 0 zGC),qDO,zP4]
 cases hq:nP i W with
 | true =>
   cases hx:zJ zGC i with
   | none =>
     left
     have:zJ env i=none:=by
      rw[qF] at hx ⊢;rw[zSH] at hx ⊢;omega
     rw[qX,this];rfl
   | some x=>right;simp[SV.enc]
 | false =>
   left
   have hni:i ∉ W:=fun hm=>by
    rw[xM.2 hm] at hq;cases hq
   rw[h i hni,qX zGC];cases zJ zGC i <;> rfl
end
end Go.Sv
namespace Go.Sv
open Go.Idl
noncomputable section
abbrev vR (Γ:Option Type)(R:Type):=zHB->GV Γ->List SV->SH->zF6 R
def zF6.sum {R:Type}{α β:Type}(x:α⊕β)(f:α->zF6 R)(g:β->zF6 R):zF6 R:=Sum.rec f g x
variable [Gc]
variable [Yl]
variable {P:Program}{Γ:Option Type}{R:Type}{r:R}{nm:Nm}{G:Nat->Bool}{rd:Bool}{N:Nat}{rs:List Ty}{wd:Wld (GV Γ)}
def EQ (P:Program)(N:Nat)(w:List Nat)(env:List SV)(h:SH)(K:vR Γ R)(r:R):YQ (GV Γ):=fun e g pe ph =>
 ∃ env' h',pe=qB env'∧ph=qC h'.l∧okL h' env'∧OkH P h'∧env'.length=N∧Keep h h'∧(e≠.ret->xQ P w env h env' h')∧(K e g env' h').run=some r
def zE5 (id:Nat)(K:vR Γ R):vR Γ R:=fun e g env h=>match e with
 | .exit i=>cond (Nat.beq i id) (K .normal g env h) (K (.exit i) g env h)
 | e=>K e g env h
def q8W:List Nat->Nat->(Nat->zF6 R)->zF6 R
 | [],_,_=>.fail
 | a::l,j,K=>.ite (Nat.beq j a) (K a) (q8W l j K)
omit [Yl] in
theorem qPG:∀ {l:List Nat} {j:Nat} {K:Nat->zF6 R},(q8W l j K).run=some r->(K j).run=some r
 | [],j,K,e=>by cases e
 | a::l,j,K,e=>by
   rcases run_ite e with ⟨z,e1⟩ | ⟨z,e1⟩
   ·rw[zPL z];exact e1
   ·exact qPG e1
def bk (sh:Sh)(os:List (Nat×Bool))(ts:List Ty)(mk:TyL ts->Option (List SV×SH))(h1 hh:SH)(env:List SV)(h:SH):Option (TyL ts):=match qH6 sh.d env,qTZ sh.o h,qZ0 sh.b h with
 | some a,some b,some c=>(match tZ ts (a++(b++c)) with
   | some s=>cond (qT4 os h&&(qKT sh.s env h&&(nH (sh.b.map (·.1)) sh.b h1 h&&(mG (sh.o++sh.b.map (·.1)) hh h&&(mk s).isSome)))) (some s) none
   | none=>none)
 | _,_,_=>none
def mkL:Nat:=2000000000000000
def lbL (y:Nat):Nat:=y - mkL
def rA:List (Nat×TypeId)->List SV->SH->List SV->List SV
 | [],_,_,e=>e
 | (i,y)::l,e0,h,e=>cond (Nat.ble mkL y) (match slk (lbL y) h.l,zJ e0 i with
   | some (.list _ _ g _ _ xs),some (.sl _ _ _ o m)=>rA l e0 h (yS e i (.sl (lbL y) g (List.length xs) o m))
   | _,_=>rA l e0 h e) (rA l e0 h e)
def slG:List (Nat×TypeId)->List SV->SH->Bool
 | [],_,_=>true
 | (i,y)::l,e0,h=>cond (slG l e0 h) (cond (Nat.ble mkL y) (match slk (lbL y) h.l,zJ e0 i with
   | some (.list _ _ _ _ _ xs),some (.sl _ _ _ o m)=>Nat.ble (o+m) (List.length xs)
   | _,_=>false) true) false
def zE6 (k:Nat)(v:SV)(h:SH):Bool:=match v with
 | .sl k' g n _ _=>qDU k (.own k' g n) h
 | _=>false
def q4K (l:List (Nat×TypeId))(env:List SV)(h:SH):Bool:=l.all fun p=>cond (Nat.ble mkL p.2) (match zJ env p.1 with
 | some v=>zE6 (lbL p.2) v h
 | none=>false) true
def slW (wb:List Nat)(l:List (Nat×TypeId)):Bool:=l.all fun p=>cond (Nat.ble mkL p.2) (!nP p.1 wb) true
def isP (k o m:Nat)(x:Option SV):Prop:=∃ g n,x=some (.sl k g n o m)
omit [Yl] in
theorem qQB {k o m j g0 n0 k0:Nat}{e0:List SV}{h:SH}(h0:zJ e0 j=some (.sl k0 g0 n0 o m)):∀ {l:List (Nat×TypeId)} {e:List SV},(∀ y,(j,y)∈l->Nat.ble mkL y=true->lbL y=k)->isP k o m (zJ e j)->isP k o m (zJ (rA l e0 h e) j)
 | [],e,_,he=>he
 | (i,y)::l,e,hy,he=>by
   have ih:=fun {e:List SV}=>qQB (k:=k) (h:=h) h0 (l:=l) (e:=e) fun y hm=>hy y (zPS _ hm)
   unfold rA
   cases hb:Nat.ble mkL y with
   | false=>exact ih he
   | true =>
     simp only[cond_true];split
     ·rename_i hk hi;refine ih ?_;by_cases hij:i=j
      ·subst hij;rw[h0] at hi;cases hi;rw[hy y zPX hb];obtain⟨g,n,h2⟩:=he
       have hlt:i < e.length:=by
        rw[qF] at h2;exact (zPQ.1 h2).1
       exact⟨_,_,by rw[qW,qF,List.getElem?_set_self hlt]⟩
      ·rw[qW,qF,List.getElem?_set_ne hij,<-qF];exact he
     ·exact ih he
omit [Yl] in
theorem qR1 {k o m j y0 g0 n0 k0:Nat}{e0:List SV}{h:SH}(h0:zJ e0 j=some (.sl k0 g0 n0 o m)):∀ {l:List (Nat×TypeId)} {e:List SV},(∀ y,(j,y)∈l->Nat.ble mkL y=true->lbL y=k)->(j,y0)∈l->Nat.ble mkL y0=true->slG l e0 h=true->j < e.length->isP k o m (zJ (rA l e0 h e) j)
 | (i,y)::l,e,hy,hm,hy0,hg,hlt=>by
   have hy':∀ y,(j,y)∈l->Nat.ble mkL y=true->lbL y=k:=fun y hm=>hy y (zPS _ hm)
   unfold slG at hg
   cases hgl:slG l e0 h with
   | false=>rw[hgl] at hg;cases hg
   | true =>
   rw[hgl,cond_true] at hg;have len:∀ {x:SV},j < (yS e i x).length:=fun {x}=>by rw[j6];exact hlt
   rcases zP6.1 hm with hq | hq
   ·cases hq;unfold rA;rw[hy0,cond_true] at hg ⊢;split at hg
    ·rename_i el gr g w t xs k2 g2 n2 o2 m2 hk hi;rw[h0] at hi;cases hi;refine qQB h0 hy' ?_;rw[hy y0 zPX hy0];exact⟨_,_,by rw[qW,qF,List.getElem?_set_self hlt]⟩
    ·cases hg
   ·unfold rA
    cases hb:Nat.ble mkL y with
    | false=>exact qR1 h0 hy' hq hy0 hgl hlt
    | true =>
      simp only[cond_true];split
      ·exact qR1 h0 hy' hq hy0 hgl len
      ·exact qR1 h0 hy' hq hy0 hgl hlt
omit [Yl] in
theorem qLH {j:Nat}{e0:List SV}{h:SH}:∀ {l:List (Nat×TypeId)} {e:List SV},j ∉ l.map (·.1)->zJ (rA l e0 h e) j=zJ e j
 | [],e,_=>rfl
 | (i,y)::l,e,hj=>by
   rw[zP3,zP6,not_or] at hj;unfold rA
   cases Nat.ble mkL y with
   | false=>exact qLH hj.2
   | true =>
     simp only[cond_true];split
     ·rw[qLH hj.2,qW,qF,List.getElem?_set_ne (fun q=>hj.1 q.symm),<-qF]
     ·exact qLH hj.2
omit [Yl] in
theorem qVQ {e0:List SV}{h:SH}(ho:OkH P h):∀ {l:List (Nat×TypeId)} {e:List SV},okL h e->slG l e0 h=true->okL h (rA l e0 h e)∧(rA l e0 h e).length=e.length
 | [],e,he,_=>⟨he,rfl⟩
 | (i,y)::l,e,he,hg=>by
   unfold slG at hg
   cases hgl:slG l e0 h with
   | false=>rw[hgl] at hg;cases hg
   | true =>
   rw[hgl,cond_true] at hg;unfold rA
   cases hb:Nat.ble mkL y with
   | false=>exact qVQ ho he hgl
   | true =>
     rw[hb,cond_true] at hg;simp only[cond_true];split at hg
     ·rename_i el gr g w t xs k' g' n' o m hk hi
      have hv:(SV.sl (lbL y) g (List.length xs) o m).ok h:=by
       simp only[SV.ok];refine⟨⟨(ho.list _ _ _ _ _ _ _ hk).1,fun el2 gr2 w2 t2 xs2 h2=>?_⟩,zPU hg⟩;rw[hk] at h2;cases h2;rfl
      obtain⟨a1,a2⟩:=qVQ ho (xK (t:=i) he hv) hgl;exact⟨a1,a2.trans (j6 _ _ _)⟩
     ·cases hg
theorem qVI {h h3:SH}{env e0:List SV}(ho:OkH P h)(ho3:OkH P h3)(hs:oU (qC h3.l) (qC h.l))(hen:okL h env):∀ {l:List (Nat×TypeId)} {m:List SV},q4K l env h=true ->
 (∀ i y k g n o q,(i,y)∈l->Nat.ble mkL y=true->zJ e0 i=some (.sl k g n o q)->∃ k' g' n',zJ env i=some (.sl k' g' n' o q))->WkP (qB env) (qB m)->WkP (qB env) (qB (rA l e0 h3 m))
 | [],m,_,_,hw=>hw
 | (i,y)::l,m,hc,hom,hw=>by
   unfold q4K at hc;rw[zQY,zPK] at hc;have zN4:=fun i y k g n o q hm=>hom i y k g n o q (zPS _ hm)
   have ih:=fun {m:List SV}=>qVI ho ho3 hs hen (l:=l) (m:=m) hc.2 zN4
   unfold rA
   cases hb:Nat.ble mkL y with
   | false=>exact ih hw
   | true =>
     have c0:=hc.1;simp only[hb,cond_true] at c0 ⊢;split
     ·rename_i el gr g w t xs k0 g0 n0 o q hk hi;refine ih ?_;obtain⟨k',g',n',hi2⟩:=hom i y _ _ _ _ _ zPX hb hi;rw[hi2] at c0;have c3:qDU (lbL y) (.own k' g' n') h=true:=c0
      have hv:(SV.own k' g' n').ok h:=by
       have:=nG hen hi2;simp only[SV.ok] at this ⊢;exact this.1
      have he:=qIB ho ho3 hv c3 hk (hs _ _ (zN hk));rw[kH];refine qG7 hw ?_;rw[qX,hi2,zPZ];simp only[SV.enc,PV.own.injEq] at he ⊢;obtain⟨e1,e2,_,_⟩:=he;rw[e1,e2]
     ·exact ih hw
theorem qWU {l:List (Nat×TypeId)}{env:List SV}{h:SH}(hc:q4K l env h=true){i y:Nat}(hm:(i,y)∈l)(hb:Nat.ble mkL y=true):∃ g n o q,zJ env i=some (.sl (lbL y) g n o q):=by
 unfold q4K at hc;have:=zPN.1 hc (i,y) hm;simp only[hb,cond_true] at this;split at this
 ·rename_i v hv;unfold zE6 at this;split at this
  ·rename_i k g n o q;unfold qDU at this;simp only[zPK] at this;have hk:=zPL this.1;rw[hk] at hv;exact⟨g,n,o,q,hv⟩
  ·exact absurd this zSE
 ·exact absurd this zSE
def qYV (rdv:List SV->SH->Option (TyL rs))(id:Nat)(sh:Sh)(os:List (Nat×Bool))(ts:List Ty)(mk:TyL ts->Option (List SV×SH))(h1 hh:SH):vR Γ (GS Γ (TyL ts)⊕(GS Γ (TyL ts)⊕(GS Γ (TyL rs)⊕GS Γ (Nat×TyL ts)))):=fun e g env h=>match e with
 | .normal=>cond (q4K sh.v env h) (match bk sh os ts mk h1 hh env h with
   | some s=>.ret (.inl (gj g s))
   | none=>.fail) .fail
 | .exit j=>cond (q4K sh.v env h) (match bk sh os ts mk h1 hh env h with
   | some s=>.ret (.inr (cond (Nat.beq j id) (.inl (gj g s)) (.inr (.inr (gj g (j,s))))))
   | none=>.fail) .fail
 | .ret=>(match rdv env h with
   | some v=>.ret (.inr (.inr (.inl (gj g v))))
   | none=>.fail)
 | .goto _=>.fail
def goS {α:Type}(o:Option (α×SH))(K:α->SH->zF6 R):zF6 R:=match o with
 | some p=>K p.1 p.2
 | none=>.fail
omit [Yl] in
theorem pV {α:Type}{o:Option (α×SH)}{K:α->SH->zF6 R}(e:(goS o K).run=some r):∃ a h,o=some (a,h)∧(K a h).run=some r:=by
 unfold goS at e;split at e
 ·exact⟨_,_,rfl,e⟩
 ·cases e
def zB4 (P:Program)(nm:Nm)(wb w:List Nat)(rdv:List SV->SH->Option (TyL rs))(en:TyL rs->List SV)(hb:SH)(sh:Sh)(id:Nat)(body:∀ {R':Type},GV Γ->List SV->SH->vR Γ R'->zF6 R')(g:GV Γ)(env:List SV)(h:SH)(K:vR Γ R):zF6 R :=
 qSV P nm sh.v env h fun zGC h0=>qUE P nm (sh.b.map (·.1)) sh.bv zGC h0 fun zGC h1=>match qH6 sh.d zGC,qTZ sh.o h1,qZ0 sh.b h1,q7Y sh.o h1 with
  | some a,some b,some c,some os=>(match zD6 (a++(b++c)) with
    | some ts=>(match tZ ts (a++(b++c)) with
      | some s0=>cond ((qKT sh.s zGC h1&&nH (sh.b.map (·.1)) sh.b h1 h1)&&(q4K sh.v zGC h1&&slW wb sh.v))
         (.loop (fun s=>goS (mkS P w sh ts os zGC h1 (g2 s)) fun e hh=>.ite (slG sh.v zGC hh) (body (g1 s) (rA sh.v zGC hh e) hh (qYV rdv id sh os ts (mkS P w sh ts os zGC h1) h1 hh)) .fail) (gj g s0)
           fun q=>zF6.sum q (fun s=>goS (mkS P w sh ts os zGC h1 (g2 s)) fun e hh=>.ite (slG sh.v zGC hh) (K .normal (g1 s) (rA sh.v zGC hh e) hh) .fail)
            fun q2=>zF6.sum q2 (fun v=>K .ret (g1 v) (en (g2 v)) ⟨h.next,hb.l⟩)
             fun p=>q8W sh.ex (g2 p).1 fun j=>goS (mkS P w sh ts os zGC h1 (g2 p).2) fun e hh=>.ite (slG sh.v zGC hh) (K (.exit j) (g1 p) (rA sh.v zGC hh e) hh) .fail) .fail
      | none=>.fail)
    | none=>.fail)
  | _,_,_,_=>.fail
def lpW (w:List Nat)(sh:Sh):List Nat:=sh.v.map (·.1)++(w++(sh.d++sh.s.map (·.1)))
structure zJC (P:Program) (nm:Nm) (N:Nat) (hb:SH) (rdv:List SV->SH->Option (TyL rs)) (en:TyL rs->List SV):Prop where
 ob:OkH P hb
 wk:∀ env h v,OkH P h->okL h env->env.length=N->Keep hb h->rdv env h=some v->Wk P nm (qB env) (qC h.l) (qB (en v)) (qC hb.l)
 kept:∀ env h v,OkH P h->okL h env->Keep hb h->rdv env h=some v->∀ k o,slk k hb.l=some o->slk k h.l=some o
 len:∀ v,(en v).length=N
 ok:∀ v h,okL h (en v)
omit [Yl] in
theorem zBQ {h:SH}(a:OkH P h){n:Nat}(hn:h.next<=n):OkH P ⟨n,h.l⟩:=by
 have hk:∀ {x:SV},x.ok h->x.ok ⟨n,h.l⟩:=fun {x} hx=>SV.ok.keep (h:=h) (h':=⟨n,h.l⟩) ⟨hn,fun k ob hh _=>hh,fun k el gr g w t xs hh _=>⟨w,xs,hh,rfl⟩⟩ hx
 exact⟨fun k ob hh=>zPP (a.ver k ob hh) hn,fun k el w l hh=>zL.2 fun x hx=>hk (zL.1 (a.cells k el w l hh) x hx),fun k el gr g w t xs hh=>by
  have:=a.list k el gr g w t xs hh
  exact⟨zPP this.1 hn,this.2⟩⟩
omit [Yl] in
theorem tC:OkH P ⟨0,[]⟩:=⟨fun k ob h=>(by cases h),fun k el w l h=>(by cases h),fun k el gr g w t xs h=>(by cases h)⟩
omit [Yl] in
theorem qS2 {σ ρ:Type}{f:σ->Option (σ⊕ρ)}{s:σ}{q:ρ}(h:zK f s=some q):∃ y,f s=some y:=by
 rw[wF] at h
 cases hf:f s with
 | none=>rw[hf] at h;cases h
 | some y=>exact⟨y,rfl⟩
omit [Yl] in
theorem qRY {ls:List Nat}{hh h:SH}{k:Nat}{o:SO}(ho:OkH P hh)(hk:Keep hh h)(e:mG ls hh h=true)(h1:k ∉ ls)(h2:slk k hh.l=some o):slk k h.l=some o:=by
 unfold mG at e;have:=zPN.1 e (k,o) (qN1 h2);rw[zQN] at this;rcases this with q | q
 ·exact absurd (xM.1 q) h1
 ·simp only at q;split at q
  ·rename_i o' ho'
   have hw:o'.w=o.w:=by
    rw[zQN] at q;rcases q with q | q
    ·exact zPL q
    ·rw[h2] at q;exact zPL q
   have:=hk.same k o' ho' (by rw[hw];exact ho.ver k o h2);rw[this] at h2;cases h2;exact ho'
  ·cases q
theorem nZ {ls:List Nat}{hh h:SH}{k:Nat}{o:SO}(ho:OkH P hh)(hk:Keep hh h)(e:mG ls hh h=true)(h1:k ∉ ls)(h2:slk k hh.l=some o):qA k (qC h.l)=some o.enc:=zN (qRY ho hk e h1 h2)
theorem q0L {w:List Nat}{rdv:List SV->SH->Option (TyL rs)}{en:TyL rs->List SV}{hb:SH}(hrd:zJC P nm N hb rdv en){sh:Sh}{id:Nat}{y:Code}{body:∀ {R':Type},GV Γ->List SV->SH->vR Γ R'->zF6 R'}{wb:List Nat}(hwb:w=lpW wb sh)
 (hbody:∀ {R':Type} {g:GV Γ} {env:List SV} {h:SH} {K:vR Γ R'} {r:R'},OkH P h->okL h env->env.length=N->Keep hb h->(body g env h K).run=some r->qR P G rd nm wd y g (qB env) (qC h.l) (EQ P N wb env h K r))
 {g:GV Γ} {env:List SV} {h:SH} {K:vR Γ R} (ho:OkH P h) (he:okL h env) (hl:env.length=N) (hbh:Keep hb h) (e:(zB4 P nm wb w rdv en hb sh id body g env h K).run=some r) :
 qR P G rd nm wd (.block id (.loop y)) g (qB env) (qC h.l) (EQ P N w env h K r):=by
 obtain⟨zGC,h0,wk1,zIB,e⟩:=qA8 (nm:=nm) ho he e;obtain⟨h1,wk2,kp2,ho1,e⟩:=qKK (nm:=nm) zIB.2.1 zIB.1 e
 have zHP:xQ P (sh.v.map (·.1)) env h zGC h1:=⟨qJ kp2 zIB.1,ho1,zIB.2.2.1.trans kp2,zIB.2.2.2.1,zIB.2.2.2.2⟩
 split at e
 case h_2=>cases e
 rename_i a b c os ha hb1 hc1 hos;split at e
 case h_2=>cases e
 rename_i ts hts;split at e
 case h_2=>cases e
 rename_i s0 hs0;obtain⟨hown,e1⟩:=qE e;rw[zPK,zPK,zPK] at hown;obtain⟨hown,hsl⟩:=hown;obtain⟨q,hq,hafter⟩:=qRL e1;have he1:=zHP.1;have zJD:=qGA hos;have hl1:zGC.length=N:=zHP.2.2.2.2.trans hl;have zMO:Keep hb h1:=hbh.trans zHP.2.2.1
 let E:GS Γ (TyL ts)->List PV:=fun s=>match mkS P w sh ts os zGC h1 (g2 s) with
  | some p=>qB (rA sh.v zGC p.2 p.1)
  | none=>[]
 let Ph:GS Γ (TyL ts)->PHp:=fun s=>match mkS P w sh ts os zGC h1 (g2 s) with
  | some p=>qC p.2.l
  | none=>[]
 have hE:∀ {s e2 h2},mkS P w sh ts os zGC h1 (g2 s)=some (e2,h2)->E s=qB (rA sh.v zGC h2 e2)∧Ph s=qC h2.l:=fun hm=>by
  simp only[E,Ph,hm,and_self]
 obtain⟨y0,hy0⟩:=qS2 hq;obtain⟨e0,hh0,hm0,_⟩:=pV hy0;obtain⟨wp0,sp0⟩:=q1T ho1 ho1 he1 ha hb1 hc1 hs0 (by rw[q0R] at hm0;exact hm0) zJD (qNB hos) hown.1 hown.2 (fun k o _ _ hk=>zN hk) (qAQ rfl fun _ _=>rfl);have wp0:=qVI ho1 (u6 ho1 he1 hm0).2.1 sp0 he1 hsl.1 (fun i y k g n o q _ _ hi=>⟨k,g,n,hi⟩) wp0
 have fin:∀ {s e2 h2},mkS P w sh ts os zGC h1 s=some (e2,h2)->slG sh.v zGC h2=true->okL h2 (rA sh.v zGC h2 e2)∧OkH P h2∧(rA sh.v zGC h2 e2).length=N∧xQ P w env h (rA sh.v zGC h2 e2) h2∧Keep h1 h2:=fun {s e2 h2} hm hg=>by
  obtain⟨a1,a2,a3,a4,a5,_⟩:=u6 ho1 he1 hm;obtain⟨b1,b2⟩:=qVQ a2 a3 hg;refine⟨b1,a2,(b2.trans a4).trans hl1,⟨b1,a2,zHP.2.2.1.trans a1,fun i hi=>?_,(b2.trans a4).trans zHP.2.2.2.2⟩,a1⟩;have hi2:i ∉ lpW wb sh:=by rw[<-hwb];exact hi
  unfold lpW at hi2;simp only[zQR,not_or] at hi2;rw[qX,qLH hi2.1,<-qX,a5 i hi hi2.2.2.1 hi2.2.2.2,zHP.2.2.2.1 i hi2.1]
 refine qR.post (qR.pre' (wk1.trans wk2) ?_);refine qR.loop E Ph g1 hq (by rw[(hE hm0).1];exact wp0) (by rw[(hE hm0).2];exact sp0) q4J.symm ?_;intro s yy hstep;obtain⟨e2,hh,hm,hb2⟩:=pV hstep
 rcases run_ite hb2 with ⟨hgd,hb2⟩ | ⟨_,hb2⟩
 rotate_left 1
 ·cases hb2
 obtain⟨f1,f2,f3,f4,f5⟩:=fin hm hgd;rw[(hE hm).1,(hE hm).2];refine (hbody f2 f1 f3 (zMO.trans f5) hb2).mono ?_;rintro ex g' pe ph ⟨env',h',rfl,rfl,k1,k2,k3,k0,k4,k5⟩;obtain⟨_,_,_,m4,m5,m6⟩:=u6 ho1 he1 hm
 have back:∀ {s'},ex≠.ret->q4K sh.v env' h'=true->bk sh os ts (mkS P w sh ts os zGC h1) h1 hh env' h'=some s'->∃ e3 h3,mkS P w sh ts os zGC h1 s'=some (e3,h3)∧WkP (qB env') (qB (rA sh.v zGC h3 e3))∧oU (qC h3.l) (qC h'.l):=by
  intro s' hne zJE hbk;unfold bk at hbk;split at hbk
  case h_2=>cases hbk
  rename_i a' b' c' ha' hb' hc';split at hbk
  case h_2=>cases hbk
  rename_i s2 hs2
  cases hc:(qT4 os h'&&(qKT sh.s env' h'&&(nH (sh.b.map (·.1)) sh.b h1 h'&&(mG (sh.o++sh.b.map (·.1)) hh h'&&(mkS P w sh ts os zGC h1 s2).isSome)))) with
  | false=>rw[hc] at hbk;cases hbk
  | true =>
    rw[hc] at hbk;cases hbk;simp only[zPK] at hc;obtain⟨⟨e3,h3⟩,hm3⟩:=zQO.1 hc.2.2.2.2;have zIC:=k4 hne
    have hboth:WkP (qB env') (qB e3)∧oU (qC h3.l) (qC h'.l):=by
     refine q1T k2 ho1 k1 ha' hb' hc' hs2 hm3 zJD hc.1 hc.2.1 hc.2.2.1 (fun k o hk hkb hk2=>nZ f2 zIC.2.2.1 hc.2.2.2.1 (by rw[zQR,not_or];exact⟨hk,hkb⟩) ?_) (qAQ ?_ ?_)
     ·rw[m6 k (by rw[zJD];exact hk) hkb];exact hk2
     ·rw[k3,hl1]
     ·intro i hi;have hi2:i ∉ lpW wb sh:=by rw[<-hwb];exact hi
      unfold lpW at hi2;simp only[zQR,not_or] at hi2;rw[zIC.2.2.2.1 i hi2.2.1,qX,qLH hi2.1,<-qX,m5 i hi hi2.2.2.1 hi2.2.2.2]
    refine⟨e3,h3,hm3,qVI k2 (u6 ho1 he1 hm3).2.1 hboth.2 k1 zJE (fun i y k g n o q hmem hb hi=>?_) hboth.1,hboth.2⟩;obtain⟨g2,n2,o2,q2,hi3⟩:=qWU zJE hmem hb
    have hlab:∀ y',(i,y')∈sh.v->Nat.ble mkL y'=true->lbL y'=lbL y:=fun y' hm' hb'=>by
     obtain⟨_,_,_,_,p1⟩:=qWU hsl.1 hm' hb';obtain⟨_,_,_,_,p2⟩:=qWU hsl.1 hmem hb;have p3:=zQJ (p1.symm.trans p2);simp only[SV.sl.injEq] at p3;exact p3.1
    obtain⟨g3,n3,h5⟩:=qR1 (h:=hh) (e:=e2) hi hlab hmem hb hgd (by
     rw[m4];rw[qF] at hi
     exact (zPQ.1 hi).1)
    have hnb:i ∉ wb:=fun hib=>by
     have h6:=hsl.2;unfold slW at h6;have h7:=zPN.1 h6 (i,y) hmem;simp only[hb,cond_true,xM.2 hib] at h7;cases h7
    have h8:=zIC.2.2.2.1 i hnb;rw[qX,qX,hi3,h5] at h8;simp only[zPZ,SV.enc,zPT,PV.own.injEq] at h8;obtain⟨_,_,e1,e2⟩:=h8;exact⟨_,_,_,by rw[hi3,e1,e2]⟩
 have out:∀ {x s' e3 h3},mkS P w sh ts os zGC h1 s'=some (e3,h3)->WkP (qB env') (qB (rA sh.v zGC h3 e3))->oU (qC h3.l) (qC h'.l)->(zF6.ite (slG sh.v zGC h3) (K x g' (rA sh.v zGC h3 e3) h3) .fail).run=some r->∃ pe' ph',Wk P nm (qB env') (qC h'.l) pe' ph'∧EQ P N w env h K r x g' pe' ph':=fun {x s' e3 h3} hm3 w1 w2 hk=>by
  rcases run_ite hk with ⟨zN5,hk⟩ | ⟨_,hk⟩
  rotate_left 1
  ·cases hk
  obtain⟨g1,g2,g3,g4,g5⟩:=fin hm3 zN5;exact⟨_,_,Wk.drop w1 w2,rA sh.v zGC h3 e3,h3,rfl,rfl,g1,g2,g3,g4.2.2.1,fun _=>g4,hk⟩
 cases ex with
 | normal =>
   simp only[qYV] at k5;obtain⟨zJE,k5⟩:=qE k5;split at k5
   case h_2=>cases k5
   rename_i s' hs';cases k5;obtain⟨e3,h3,hm3,w1,w2⟩:=back (fun h=>by cases h) zJE hs';have hm3:mkS P w sh ts os zGC h1 (g2 (gj g' s'))=some (e3,h3):=by rw[q0R];exact hm3
   show zHB.normal=.normal∧WkP (qB env') (E (gj g' s'))∧oU (Ph (gj g' s')) (qC h'.l)∧g'=g1 (gj g' s');rw[(hE hm3).1,(hE hm3).2,q4J];exact⟨rfl,w1,w2,rfl⟩
 | exit j =>
   simp only[qYV] at k5;obtain⟨zJE,k5⟩:=qE k5;split at k5
   case h_2=>cases k5
   rename_i s' hs';obtain⟨e3,h3,hm3,w1,w2⟩:=back (fun h=>by cases h) zJE hs';cases k5;intro hqe;refine⟨fun h=>by (cases h),?_⟩
   cases hj:Nat.beq j id with
   | true =>
     rw[hj] at hqe;subst hqe;have hjj:j=id:=zPL hj;subst hjj;have hafter:(goS (mkS P w sh ts os zGC h1 (g2 (gj g' s'))) fun e hh=>zF6.ite (slG sh.v zGC hh) (K .normal (g1 (gj g' s')) (rA sh.v zGC hh e) hh) .fail).run=some r:=hafter;obtain⟨e4,h4,hm4,hk⟩:=pV hafter;rw[q0R,hm3] at hm4;cases hm4;rw[q4J] at hk;exact BQY.on (out hm3 w1 w2 hk)
   | false =>
     rw[hj] at hqe;subst hqe;have hjj:j≠id:=fun h=>by rw[h,aI] at hj;cases hj
     obtain⟨e4,h4,hm4,hk⟩:=pV (qPG hafter);rw[q0R,hm3] at hm4;cases hm4;rw[q4J,q0R] at hk;exact BQY.ex hjj (out hm3 w1 w2 hk)
 | ret =>
   simp only[qYV] at k5;split at k5
   case h_2=>cases k5
   rename_i v hv;cases k5;intro hqe;subst hqe;have hbr:Keep hb h':=(zMO.trans f5).trans k0;have hkp:=hrd.kept _ _ _ k2 k1 hbr hv
   have hkh:∀ k o,slk k hb.l=some o->slk k h.l=some o:=fun k o hk=>by
    have h2:=hkp k o hk;have hw:o.w < h.next:=zPP (hrd.ob.ver k o hk) hbh.next;have zKS:Keep h h':=(zHP.2.2.1.trans f5).trans k0;exact zKS.same k o h2 hw
   have hkeep:Keep h ⟨h.next,hb.l⟩:=⟨zPM _,fun k ob hk _=>hkh k ob hk,fun k el gr g w t xs hk _=>⟨w,xs,hkh k _ hk,rfl⟩⟩
   have hafter:(K .ret (g1 (gj g' v)) (en (g2 (gj g' v))) ⟨h.next,hb.l⟩).run=some r:=hafter;rw[q4J,q0R] at hafter;refine⟨fun h=>by (cases h),BQY.rt ⟨_,_,hrd.wk _ _ _ k2 k1 k3 hbr hv,en v,⟨h.next,hb.l⟩,rfl,rfl,hrd.ok v _,zBQ hrd.ob hbh.next,hrd.len v,hkeep,fun h=>absurd rfl h,hafter⟩⟩
 | goto l=>simp only[qYV] at k5;cases k5
def q90 (sh:Sh)(os:List (Nat×Bool))(ts:List Ty)(mk:TyL ts->Option (List SV×SH))(h1:SH):vR Γ (Unit⊕GS Γ (TyL ts)):=fun e g env h=>match e with
 | .normal=>(match bk sh os ts mk h1 h1 env h with
   | some s=>.ret (.inr (gj g s))
   | none=>.fail)
 | _=>.fail
def zB5 (P:Program)(wa:List Nat)(j:zIV)(body:∀ {R':Type},GV Γ->List SV->SH->vR Γ R'->zF6 R')(g:GV Γ)(env:List SV)(h:SH)(K:GV Γ->List SV->SH->zF6 R):zF6 R :=
 cond ((j.d++j.s.map (·.1)).all fun i=>nP i wa)
  (.loop (fun _:Unit=>body g env h (q90 j.sh j.os j.ts (mkS P wa j.sh j.ts j.os env h) h)) () fun q=>goS (mkS P wa j.sh j.ts j.os env h (g2 q)) fun e hh=>K (g1 q) e hh) .fail
omit [Gc] [Yl] in
theorem qFV {ρ:Type}{f:Unit->Option (Unit⊕ρ)}{q:ρ}:∀ {n:Nat},vB n f ()=some q->f ()=some (.inr q)
 | 0,h=>by cases h
 | n+1,h=>by
   unfold vB at h;split at h
   ·exact qFV h
   ·rename_i hf;cases h;exact hf
   ·cases h
theorem q26 {wa:List Nat}{j:zIV}{y:Code}{body:∀ {R':Type},GV Γ->List SV->SH->vR Γ R'->zF6 R'}
 {g:GV Γ} {env:List SV} {h:SH} {K:GV Γ->List SV->SH->zF6 R}
 (hbody:∀ {R':Type} {K:vR Γ R'} {r:R'},(body g env h K).run=some r->qR P G rd nm wd y g (qB env) (qC h.l) (EQ P N wa env h K r))
 (ho:OkH P h) (he:okL h env) (hl:env.length=N) (e:(zB5 P wa j body g env h K).run=some r) :
 qR P G rd nm wd y g (qB env) (qC h.l) fun ex g' pe ph=>ex=.normal∧∃ zGN h2,pe=qB zGN∧ph=qC h2.l∧OkH P h2∧okL h2 zGN∧zGN.length=N∧xQ P wa env h zGN h2∧(K g' zGN h2).run=some r:=by
 obtain⟨hsub,e1⟩:=qE e;obtain⟨q,hq,hafter⟩:=qRL e1;obtain⟨n,hn⟩:=gN hq;have hstep:=qFV hn;obtain⟨e2,hh,hm,hk⟩:=pV hafter;refine qR.post ((hbody hstep).mono ?_);rintro ex g' pe ph ⟨env',h',rfl,rfl,k1,k2,k3,k0,k4,k5⟩
 cases ex with
 | normal =>
   simp only[q90] at k5;split at k5
   case h_2=>cases k5
   rename_i s' hbk;cases k5;rw[q0R] at hm;rw[q4J] at hk;unfold bk at hbk;split at hbk
   case h_2=>cases hbk
   rename_i a' b' c' ha' hb' hc';split at hbk
   case h_2=>cases hbk
   rename_i s2 hs2
   cases hc:(qT4 j.os h'&&(qKT j.sh.s env' h'&&(nH (j.sh.b.map (·.1)) j.sh.b h h'&&(mG (j.sh.o++j.sh.b.map (·.1)) h h'&&(mkS P wa j.sh j.ts j.os env h s2).isSome)))) with
   | false=>rw[hc] at hbk;cases hbk
   | true =>
     rw[hc] at hbk;cases hbk;simp only[zPK] at hc;have zIC:=k4 fun h=>by cases h
     obtain⟨w1,w2⟩:=q1T k2 ho k1 ha' hb' hc' hs2 hm rfl hc.1 hc.2.1 hc.2.2.1 (fun k o hk hkb hk2=>nZ ho zIC.2.2.1 hc.2.2.2.1 (by rw[zQR,not_or];exact⟨hk,hkb⟩) hk2) (qAQ (k3.trans hl.symm) fun i hi=>zIC.2.2.2.1 i hi);obtain⟨m1,m2,m3,m4,m5,_⟩:=u6 ho he hm
     have hin:∀ i,i ∉ wa->i ∉ j.d∧i ∉ j.s.map (·.1):=fun i hi=>by
      have hx:∀ z∈j.d++j.s.map (·.1),z∈wa:=fun z hz=>xM.1 (zPN.1 hsub z hz)
      exact⟨fun h=>hi (hx i (zQW _ h)),fun h=>hi (hx i (zRI _ h))⟩
     exact⟨_,_,Wk.drop w1 w2,rfl,e2,hh,rfl,rfl,m2,m3,m4.trans hl,⟨m3,m2,m1,fun i hi=>m5 i hi (hin i hi).1 (hin i hi).2,m4⟩,hk⟩
 | exit _=>cases k5
 | ret=>cases k5
 | goto _=>cases k5
end
end Go.Sv
namespace Go.Sv
open Go.Idl
noncomputable section
variable [Gc]
variable [Yl]
variable {P:Program}{Γ:Option Type}{R:Type}{r:R}{nm:Nm}{G:Nat->Bool}{rd:Bool}{N:Nat}{rs:List Ty}{tab:uU}{nat:xI}{good:FuncId->Bool}{wd:Wld (GV Γ)}
omit [Yl] in
theorem qBB:∀ {ts:List Ty} {x:TyL ts} {y:PV},y∈pvL ts x->∃ (t:Ty) (z:t.sem),y=t.pv z
 | [],_,_,h=>by cases h
 | [t],x,y,h=>⟨t,x,by simpa [pvL] using h⟩
 | t::u::ts,x,y,h=>by
   have h:y∈t.pv x.1::pvL (u::ts) x.2:=h;rcases zP6.1 h with q | q
   ·exact⟨t,x.1,q⟩
   ·exact qBB q
omit [Yl] in
theorem qXC (t:Ty)(x:t.sem):qLI (t.pv x)=true:=by
 unfold Ty.pv
 cases t.one with
 | true=>rfl
 | false =>
   show ((t.cells x).map PV.f).all qT1=true;rw[zPN];intro y hy;obtain⟨c,_,rfl⟩:=zQB.1 hy;rfl
omit [Yl] in
theorem q51 {Z:Nat->Prop}{H:IH}{M M':Nat->Option (Nat×PO)}{ts:List Ty}{x:TyL ts}{vs:List Value}(h:VRL P Z H M (pvL ts x) vs):VRL P Z H M' (pvL ts x) vs:=⟨h.len,fun i y v a b=>by
 obtain⟨t,z,rfl⟩:=qBB (zQQ a)
 exact bX (h.val i _ v a b) (qXC t z)⟩
omit [Yl] in
theorem qHU:∀ (ts:List Ty) (x:TyL ts),(svL ts x).length=ts.length
 | [],_=>rfl
 | [_],_=>rfl
 | t::u::ts,x=>by
   show (t.sv x.1::svL (u::ts) x.2).length=_;simp only[zP5,qHU (u::ts)]
def q36 (t:Ty)(x:t.sem):PV:=.lp (t.cells x) 0
def q86:(ts:List Ty)->TyL ts->List PV
 | [],_=>[]
 | [t],x=>[q36 t x]
 | t::u::ts,x=>q36 t x.1::q86 (u::ts) x.2
def qOP:(ts:List Ty)->TyL ts->List SV
 | [],_=>[]
 | [t],x=>[.lp t [x] 0 0]
 | t::u::ts,x=>.lp t [x.1] 0 0::qOP (u::ts) x.2
theorem qF3:∀ (ts:List Ty) (x:TyL ts),qB (qOP ts x)=q86 ts x
 | [],_=>by simp[qOP,q86,qB]
 | [t],x=>by simp[qOP,q86,qB,SV.enc,q36]
 | t::u::ts,x=>by
   show qB (.lp t [x.1] 0 0::qOP (u::ts) x.2)=q36 t x.1::q86 (u::ts) x.2;simp only[qB,qF3 (u::ts)];simp[SV.enc,q36]
omit [Yl] in
theorem qVF {h:SH}:∀ (ts:List Ty) (x:TyL ts),okL h (qOP ts x)
 | [],_=>by simp[qOP,okL]
 | [t],x=>by simp[qOP,okL,SV.ok]
 | t::u::ts,x=>by
   show okL h (.lp t [x.1] 0 0::qOP (u::ts) x.2);simp only[okL,SV.ok,true_and];exact qVF (u::ts) x.2
omit [Yl] in
theorem qII:∀ (ts:List Ty) (x:TyL ts),(qOP ts x).length=ts.length
 | [],_=>rfl
 | [_],_=>rfl
 | t::u::ts,x=>by
   show (SV.lp t [x.1] 0 0::qOP (u::ts) x.2).length=_;simp only[zP5,qII (u::ts)]
def qDB (P:Program)(t:Ty)(v:SV)(h:SH):Option (t.sem×SH):=match v with
 | .ref k off w=>(match slk k h.l with
   | some (.cells el _ l)=>cond (!spec P el&&(Nat.beq off 0&&Nat.beq w l.length)) (match t.zJB P (wB P 8 el) l (h.del k) with
     | some (x,_,[],h')=>some (x,h')
     | _=>none) none
   | _=>none)
 | _=>none
def bJ (P:Program):(ts:List Ty)->List SV->SH->Option (TyL ts×SH)
 | [],[],h=>some ((),h)
 | [t],[v],h=>qDB P t v h
 | t::u::ts,v::vs,h=>match qDB P t v h with
   | some (x,h1)=>(match bJ P (u::ts) vs h1 with
     | some (y,h2)=>some ((x,y),h2)
     | none=>none)
   | none=>none
 | _,_,_=>none
theorem qCH {t:Ty}{v:SV}{h:SH}{x:t.sem}{h':SH}(ho:OkH P h)(e:qDB P t v h=some (x,h')) :
 Keep h h'∧OkH P h'∧∀ (Z:Nat->Prop) (H:IH) (m:Nat->Nat) (u:Value),Hp P Z H (own m (qC h.l))->VR P Z H (own m (qC h.l)) v.enc u->∃ Z',Fz P Z H m (qC h.l) Z' (qC h'.l)∧VR P Z' H (fun _=>none) (q36 t x) u:=by
 unfold qDB at e;split at e
 case h_2=>cases e
 rename_i k off w;split at e
 case h_2=>cases e
 rename_i el w0 l hk
 cases hc:(!spec P el&&(Nat.beq off 0&&Nat.beq w l.length)) with
 | false=>rw[hc] at e;cases e
 | true =>
   rw[hc] at e;simp only[cond_true] at e;rw[zPK,zQH] at hc;obtain⟨hsp,hc⟩:=hc;rw[zPK] at hc;have h1:off=0:=zPL hc.1;have h2:w=l.length:=zPL hc.2;subst h1 h2;split at e
   case h_2=>cases e
   rename_i y zGO h2 hd;cases e;have hd0:=fO (k:=k) ho;obtain⟨a1,a2,a3,ys,a4,a5⟩:=qCK hd0.2 (qJ hd0.1 (ho.cells _ _ _ _ hk)) hd;refine⟨hd0.1.trans a2,a3,fun Z H m u hp hv=>?_⟩;have hkp:=zN hk;have zGZ:real (SO.cells el w0 l).enc:=fun q=>by cases q.1
   obtain⟨w1,w2,w3,vs,q1,q2,q3⟩:=hp.real hkp zGZ hsp;have hcut:=Fz.del hp hkp zGZ;have hfz:=a4 [] (qC h'.l) (by simp[qB,qAC]);rw[zRF] at hfz;rw[show qC (h.del k).l=p8 k (qC h.l) from fA k _] at hfz;obtain⟨Z2,c2,r2⟩:=qCC (fun a b c=>qK4 4 a b c) hcut.hp (hcut.vrl q2) hfz;refine⟨Z2,hcut.trans c2,?_⟩;simp only[SV.enc] at hv
   cases hv with
   | ref g1 g2 =>
     obtain⟨_,g3⟩:=g2 _ _ (qN hkp);obtain⟨rfl,_⟩:=g3 (by simp[SO.enc,qQ]);have hrt:=qFM (P:=P) (M:=fun _=>none) (f:=rtC P) (ts:=wB P 8 el) (fun t x v h=>q4W h) (r2.map (P:=P) (M:=fun _=>none));have h5:=(a5 []).1;rw[zRF] at h5;rw[h5] at hrt
     have hrt:VRL P Z2 H (fun _=>none) ((t.cells x).map .f) vs:=by
      cases zGO <;> simpa [rtL] using hrt
     have hlen:(t.cells x).length=vs.length:=by have:=hrt.len;simpa using this
     refine .lp (o:=0) (vs:=vs) (c2.zle _ (.inr rfl)) w1 ?_ ?_
     ·rw[hlen];exact xV q1 (by omega) (by simp)
     ·intro i y v hy hvv;have:=hrt.val i (.f y) v (by rw[zP0,hy];rfl) hvv
      cases this with
      | f h=>exact h
theorem qFX:∀ {ts:List Ty} {vs:List SV} {h:SH} {x:TyL ts} {h':SH},OkH P h->bJ P ts vs h=some (x,h') ->
 Keep h h'∧OkH P h'∧∀ (Z:Nat->Prop) (H:IH) (m:Nat->Nat) (us:List Value),Hp P Z H (own m (qC h.l))->VRL P Z H (own m (qC h.l)) (qB vs) us->∃ Z',Fz P Z H m (qC h.l) Z' (qC h'.l)∧VRL P Z' H (fun _=>none) (q86 ts x) us
 | [],[],h,x,h',ho,e=>by
   unfold bJ at e;cases e;refine⟨.refl _,ho,fun Z H m us hp hv=>⟨Z,.refl hp,?_⟩⟩;simp only[qB] at hv;rw[hv.zGD];exact .nil
 | [t],[v],h,x,h',ho,e=>by
   unfold bJ at e;obtain⟨a1,a2,a3⟩:=qCH ho e;refine⟨a1,a2,fun Z H m us hp hv=>?_⟩;simp only[qB] at hv;obtain⟨u,us',rfl,b1,b2⟩:=hv.zF9;obtain⟨Z',c1,c2⟩:=a3 Z H m u hp b1;rw[b2.zGD];exact⟨Z',c1,.cons c2 .nil⟩
 | t::u::ts,v::vs,h,x,h',ho,e=>by
   unfold bJ at e;split at e
   case h_2=>cases e
   rename_i x1 h1 hd;split at e
   case h_2=>cases e
   rename_i y h2 hd2;cases e;obtain⟨a1,a2,a3⟩:=qCH ho hd;obtain⟨b1,b2,b3⟩:=qFX a2 hd2;refine⟨a1.trans b1,b2,fun Z H m us hp hv=>?_⟩;simp only[qB] at hv;obtain⟨w,us',rfl,d1,d2⟩:=hv.zF9;obtain⟨Z1,c1,c2⟩:=a3 Z H m w hp d1;obtain⟨Z2,f1,f2⟩:=b3 Z1 H m us' c1.hp (c1.vrl d2);exact⟨Z2,c1.trans f1,.cons (c2.mono (p:=fun _=>false) f1.zle (zPM _) (fun _ _ _=>rfl) (.refl _ _) fun j hj=>by cases hj) f2⟩
 | [],_::_,_,_,_,_,e=>by cases e
 | t::ts,[],_,_,_,_,e=>by cases ts <;> (unfold bJ at e;cases e)
 | [_],_::_::_,_,_,_,_,e=>by unfold bJ at e;cases e
def q39 (P:Program)(G:Nat->Bool)(f:FuncId)(ent:zGS):Prop:=entered P f=true∧∀ (x:TyL ent.as) (γ:Type) (stp:γ->TyL ent.ys->Option (γ×Bool)) (g0 g1:γ),ent.F x γ stp g0=some g1->∀ (w:Wld γ) (l:Nat),
 (∀ g y g' b,stp g y=some (g',b)->qKW P G w l g (pvL ent.ys y) g' b)->∀ (Z:Nat->Prop) (H:IH) (D:Nat->Prop) (us:List Value),(∀ b,Z b->b < H.size)->H.base<=H.size->q4D Z H->w.W g0 Z H D->VRL P Z H (fun _=>none) (q86 ent.as x) us ->
 gF P G f (.func (.yield l) #[] #[]::us) H fun r=>∃ Z' D',(∀ b,Z' b->b < r.2.size)∧w.W g1 Z' r.2 D'∧StW Z H D Z' r.2 D'
def q41 (P:Program)(G:Nat->Bool)(IT:List (FuncId×zGS)):Prop:=∀ f ent,slI f IT=some ent->q39 P G f ent
def qD2:List Nat->List SV->List SV->List SV
 | i::is,v::vs,env=>qD2 is vs (yS env i v)
 | _,_,env=>env
def noSh (sh:Sh):Bool:=sh.d.isEmpty&&(sh.s.isEmpty&&sh.v.isEmpty)
def q1J (sh:Sh)(os:List (Nat×Bool))(ts:List Ty)(mk:TyL ts->Option (List SV×SH))(h1 hh:SH):vR Γ (GS Γ (TyL ts)×Bool):=fun e g env h=>match e with
 | .normal=>(match bk sh os ts mk h1 hh env h with
   | some s=>.ret (gj g s,true)
   | none=>.fail)
 | _=>.fail
def zDQ {R:Type}(k:GV Γ->List SV->SH->zF6 R):vR Γ R:=fun e g env h=>match e with
 | .normal=>k g env h
 | _=>.fail
def rgN (nm:Nm)(l:List Nat):Nm:=⟨nm.b,fun k=>nm.p k&&!nP k l⟩
def q48 (P:Program)(G:Nat->Bool)(IT:List (FuncId×zGS))(nm:Nm)(sh:Sh)(v:Operand)(ps:Array Tmp)(bx bY:Code)(x y:∀ {R':Type},Nm->GV Γ->List SV->SH->vR Γ R'->zF6 R')(g:GV Γ)(env:List SV)(h:SH)(K:vR Γ R):zF6 R :=
 qUE P nm (sh.b.map (·.1)) sh.bv env h fun env h1=>match kE env v with
  | .fn f [] caps=>(match slI f IT with
    | some ent=>(match bJ P ent.as caps h1 with
      | some (z,h2)=>(match qTZ sh.o h2,qZ0 sh.b h2,q7Y sh.o h2 with
        | some b,some c,some os=>(match zD6 (b++c) with
          | some ts=>(match tZ ts (b++c) with
            | some s0=>cond (noSh sh&&(nH (sh.b.map (·.1)) sh.b h2 h2&&(Nat.beq ps.size ent.ys.length&&(jC G v&&(codeOk G true bx&&codeOk G true bY)))))
               (goS (mkS P [] sh ts os env h2 s0) fun _ _=>.bind (ent.F z (GS Γ (TyL ts)) (fun s w=>(goS (mkS P [] sh ts os env h2 (g2 s)) fun e hh=>x (rgN nm (h2.l.map (·.1)++(os.map (·.1)++sh.b.map (·.1)))) (g1 s) (qD2 ps.toList (svL ent.ys w) e) hh
                 (zDQ fun g3 e3 h3=>y (rgN nm (h2.l.map (·.1)++(os.map (·.1)++sh.b.map (·.1)))) g3 e3 h3 (q1J sh os ts (mkS P [] sh ts os env h2) h2 hh))).run) (gj g s0))
                 fun q=>goS (mkS P [] sh ts os env h2 (g2 q)) fun e hh=>K .normal (g1 q) e hh) .fail
            | none=>.fail)
          | none=>.fail)
        | _,_,_=>.fail)
      | none=>.fail)
    | none=>.fail)
  | _=>.fail
omit [Yl] in
theorem qLU:∀ (i:Nat) (l:List SV),blank [] i l=l
 | _,[]=>rfl
 | i,x::l=>by simp[blank,nP,qLU (i+1) l]
omit [Yl] in
theorem qGT {sh:Sh}{ts:List Ty}{os:List (Nat×Bool)}{env e2:List SV}{h1 h2:SH}{s:TyL ts}(hn:noSh sh=true)(hm:mkS P [] sh ts os env h1 s=some (e2,h2)):e2=env:=by
 unfold noSh at hn;simp only[zPK,List.isEmpty_iff] at hn;unfold mkS at hm;rw[hn.1,hn.2.1] at hm;split at hm
 ·split at hm
  ·split at hm
   ·rename_i e3 hss;cases hm;have:some (blank [] 0 env)=some e2:=hss;rw[qLU] at this;exact (zQJ this).symm
   ·cases hm
  ·cases hm
 ·cases hm
omit [Yl] in
theorem qKD:∀ (ps:List Nat) (vs env:List SV),(qD2 ps vs env).length=env.length
 | [],vs,env=>rfl
 | i::is,[],env=>rfl
 | i::is,v::vs,env=>by
   show (qD2 is vs (yS env i v)).length=_;rw[qKD is,j6]
omit [Yl] in
theorem qRG {h:SH}:∀ {ps:List Nat} {vs env:List SV},okL h vs->okL h env->okL h (qD2 ps vs env)
 | [],vs,env,_,he=>he
 | i::is,[],env,_,he=>he
 | i::is,v::vs,env,hv,he=>by
   simp only[okL] at hv;exact qRG (ps:=is) hv.2 (xK he hv.1)
theorem qLQ {Z:Nat->Prop}{H:IH}{M:Nat->Option (Nat×PO)}:∀ {ps:List Nat} {vs env:List SV} {ws zF7:List Value},VRL P Z H M (qB vs) ws->VRL P Z H M (qB env) zF7->VRL P Z H M (qB (qD2 ps vs env)) ((ps.zip ws).foldl (fun e p=>yS e p.1 p.2) zF7)
 | [],vs,env,ws,zF7,_,he=>he
 | i::is,[],env,ws,zF7,hv,he=>by
   simp only[qB] at hv;rw[hv.zGD];exact he
 | i::is,v::vs,env,ws,zF7,hv,he=>by
   simp only[qB] at hv;obtain⟨w,ws',rfl,a1,a2⟩:=hv.zF9;show VRL P Z H M (qB (qD2 is vs (yS env i v))) ((is.zip ws').foldl (fun e p=>yS e p.1 p.2) (yS zF7 i w));refine qLQ a2 ?_;rw[kH,qW,qW];exact he.set a1 i
def rgW (P:Program)(wd:Wld (GV Γ))(env:List SV)(h0:SH)(zF7:Env)(H0:IH)(m0:Nat->Nat)(D0:Nat->Prop)(lp:Loop){S:Type}(mk:S->Option (List SV×SH)):Wld (GS Γ S) where
 W q Z H D:=∃ e hh m Dg,mk (g2 q)=some (e,hh)∧St P wd (g1 q) (qB env) (qC hh.l) Z H m zF7 Dg∧H.get H0.size=some (.loop lp)∧H0.size < H.size∧¬ dY (own m (qC hh.l)) H0.size∧¬ Dg H0.size∧¬ Z H0.size ∧
  (∀ b,D b ↔ dY (own m (qC hh.l)) b∨Dg b∨b=H0.size)∧KR (fun _=>false) (own m0 (qC h0.l)) (own m (qC hh.l))∧(∀ b,dY (own m (qC hh.l)) b->b < H0.size->dY (own m0 (qC h0.l)) b)∧(∀ b,Dg b->b < H0.size->D0 b)∧H.base=H0.base
 lt:=by
  rintro g Z H D ⟨e,hh,m,Dg,a1,a2,a3,a4,a5,a6,a7,a8,_⟩ b hb;rcases (a8 b).1 hb with q | q | q
  ·exact (bI a2.hp q).1
  ·exact wd.lt a2.wd b q
  ·rw[q];exact a4
 nz:=by
  rintro g Z H D ⟨e,hh,m,Dg,a1,a2,a3,a4,a5,a6,a7,a8,_⟩ b hb;rcases (a8 b).1 hb with q | q | q
  ·exact (bI a2.hp q).2
  ·exact wd.nz a2.wd b q
  ·rw[q];exact a7
 keep:=by
  rintro g Z H D Z' H' ⟨e,hh,m,Dg,a1,a2,a3,a4,a5,a6,a7,a8,a9,a10,a11,a12⟩ hz hl hs hb hg hn;refine⟨e,hh,m,Dg,a1,a2.other hz hl hs hb (fun b h1 h2=>hg b h1 ?_) (fun b h=>hn b ((a8 b).2 ?_)),?_,zPP a4 hs,a5,a6,hn _ ((a8 _).2 (.inr (.inr rfl))),a8,a9,a10,a11,hb.trans a12⟩
  ·rcases h2 with q | q | q
   ·exact .inl ((a8 b).2 (.inl q))
   ·exact .inl ((a8 b).2 (.inr (.inl q)))
   ·exact .inr q
  ·rcases h with q | q
   ·exact .inl q
   ·exact .inr (.inl q)
  ·rw[hg _ a4 (.inl ((a8 _).2 (.inr (.inr rfl))))];exact a3
omit [Yl] in
theorem q8T {R:Type}{k:GV Γ->List SV->SH->zF6 R}{e:zHB}{g:GV Γ}{env:List SV}{h:SH}{r:R}(q:(zDQ k e g env h).run=some r):e=.normal∧(k g env h).run=some r:=by
 cases e with
 | normal=>exact⟨rfl,q⟩
 | _=>cases q
omit [Yl] in
theorem q0G {sh:Sh}{os:List (Nat×Bool)}{ts:List Ty}{mk:TyL ts->Option (List SV×SH)}{h1 hh:SH}{e:zHB}{g:GV Γ}{env:List SV}{h:SH}{r:GS Γ (TyL ts)×Bool}(q:(q1J sh os ts mk h1 hh e g env h).run=some r) :
 e=.normal∧∃ s,bk sh os ts mk h1 hh env h=some s∧r=(gj g s,true):=by
 cases e with
 | normal =>
   simp only[q1J] at q;split at q
   ·rename_i s hs;cases q;exact⟨rfl,s,hs,rfl⟩
   ·cases q
 | _=>cases q
theorem q1Q {sh:Sh}{ts:List Ty}{os:List (Nat×Bool)}{env:List SV}{h2:SH}{zF7:Env}{H0:IH}{m0:Nat->Nat}{D0:Nat->Prop}{lp:Loop}{bx bY:Code}{x y:∀ {R':Type},Nm->GV Γ->List SV->SH->vR Γ R'->zF6 R'}{wx wy:List Nat}{ent:zGS}{ks:List Nat}{hb:SH}
 (hx:∀ {R':Type} {nm:Nm} {g:GV Γ} {env:List SV} {h:SH} {K:vR Γ R'} {r:R'},OkH P h->okL h env->env.length=N->Keep hb h->(x nm g env h K).run=some r->qR P G true nm wd bx g (qB env) (qC h.l) (EQ P N wx env h K r))
 (hy:∀ {R':Type} {nm:Nm} {g:GV Γ} {env:List SV} {h:SH} {K:vR Γ R'} {r:R'},OkH P h->okL h env->env.length=N->Keep hb h->(y nm g env h K).run=some r->qR P G true nm wd bY g (qB env) (qC h.l) (EQ P N wy env h K r))
 (ho2:OkH P h2) (he2:okL h2 env) (hbh:Keep hb h2) (hl:env.length=N) (hn:noSh sh=true) (hos:os.map (·.1)=sh.o) (hks:∀ k,k ∉ ks->k ∉ os.map (·.1)∧k ∉ sh.b.map (·.1)∧slk k h2.l=none)
 (hr1:lp.state=.ready) (hr2:lp.pending=none) (hr3:lp.tmps.toList=zF7) (hr5:lp.assign=bx) (hr6:lp.body=bY) (hps:lp.params.size=ent.ys.length)
 {q q':GS Γ (TyL ts)} {w:TyL ent.ys} {b:Bool} (e:(goS (mkS P [] sh ts os env h2 (g2 q)) fun e hh=>x (rgN nm ks) (g1 q) (qD2 lp.params.toList (svL ent.ys w) e) hh (zDQ fun g3 e3 h3=>y (rgN nm ks) g3 e3 h3 (q1J sh os ts (mkS P [] sh ts os env h2) h2 hh))).run=some (q',b)) :
 qKW P G (rgW P wd env h2 zF7 H0 m0 D0 lp (mkS P [] sh ts os env h2)) H0.size q (pvL ent.ys w) q' b:=by
 obtain⟨e2,hh,hm,hb2⟩:=pV e;have he:=qGT hn hm;subst he;intro Z H D ivs hz hbs hW hv;obtain⟨e',hh',m,Dg,a1,a2,a3,a4,a5,a6,a7,a8,a9,a10,a11,a12⟩:=hW;rw[hm] at a1;cases a1;obtain⟨m1,m2,m3,m4,m5,m6⟩:=u6 ho2 he2 hm;have hlen:ivs.length=lp.params.size:=by rw[<-hv.len,<-qBK,qQ,qHU,hps]
 have zN6:okL hh (qD2 lp.params.toList (svL ent.ys w) e2):=qRG (qC4 _ _) m3;refine qW6 a3 hr1 hlen ?_;rw[hr5,hr3]
 have hs0:St P wd (g1 q) (qB (qD2 lp.params.toList (svL ent.ys w) e2)) (qC hh.l) Z H m ((lp.params.toList.zip ivs).foldl (fun e p=>yS e p.1 p.2) zF7) Dg:=by
  refine⟨a2.hp,qLQ ?_ a2.vrl,a2.wd,a2.dis⟩;rw[qBK];exact q51 hv
 refine (hx m2 zN6 (by rw[qKD,m4,hl]) (hbh.trans m1) hb2 Z H m _ Dg hs0 hbs).mono ?_;rintro o ⟨Z2,m2',pe3,ph3,g3,D3,st3,sd3,kr3,e3,h3,rfl,rfl,k1,k2,k3,k0,k4,k5⟩;obtain⟨hoe,k5⟩:=q8T k5;have hl3:¬ dY (own m2' (qC h3.l)) H0.size:=fun h=>a5 (sd3.onew _ h a4)
 have hD3:¬ D3 H0.size:=fun h=>a6 (sd3.zHS _ h a4)
 have hZ3:¬ Z2 H0.size:=fun h=>by
  rcases sd3.zG9 _ h a4 with q | q | q
  ·exact a7 q
  ·exact a5 q
  ·exact a6 q
 have hg3:o.H.get H0.size=some (.loop lp):=(sd3.keep _ a4 a5 a6).trans a3;refine⟨hoe,lp,hg3,hr1,?_⟩;subst hr6;have hlt3:H0.size < o.H.size:=zPP a4 sd3.size
 have st4:St P wd g3 (qB e3) (qC h3.l) Z2 (o.H.put H0.size (.loop { lp with state:=.busy })) m2' o.env D3:=by
  refine st3.other (fun _ h=>h) st3.hp.zlt (zPM _) rfl (fun b hb h=>xZ fun e=>?_) (fun b h=>?_)
  ·subst e;rcases h with h | h | h
   ·exact hl3 h
   ·exact hD3 h
   ·exact hZ3 h
  ·rcases h with h | h
   ·exact (bI st3.hp h).2
   ·exact wd.nz st3.wd b h
 have hb4:(o.H.put H0.size (.loop { lp with state:=.busy })).base<=(o.H.put H0.size (.loop { lp with state:=.busy })).size:=by
  show o.H.base<=o.H.size;rw[sd3.base];exact zP7 hbs sd3.size
 refine (hy k2 k1 k3 ((hbh.trans m1).trans k0) k5 Z2 _ m2' o.env D3 st4 hb4).mono ?_;rintro s ⟨Z5,m5',pe5,ph5,g5,D5,st5,sd5,kr5,e5,h5,rfl,rfl,l1,l2,l3,l0,l4,l5⟩;obtain⟨hse,s',hbk,hqe⟩:=q0G l5;cases hqe;have zJ2:H0.size < (o.H.put H0.size (.loop { lp with state:=.busy })).size:=hlt3;have hg5:s.H.get H0.size=some (.loop { lp with state:=.busy }):=(sd5.keep _ zJ2 hl3 hD3).trans (dU);have hl5:¬ dY (own m5' (qC h5.l)) H0.size:=fun h=>hl3 (sd5.onew _ h zJ2)
 have hD5:¬ D5 H0.size:=fun h=>hD3 (sd5.zHS _ h zJ2)
 have hZ5:¬ Z5 H0.size:=fun h=>by
  rcases sd5.zG9 _ h zJ2 with q | q | q
  ·exact hZ3 q
  ·exact hl3 q
  ·exact hD3 q
 have zN7:H0.size < s.H.size:=zPP zJ2 sd5.size;refine⟨_,hg5,?_,?_⟩
 ·rw[hse];rfl
 have hlp:({ ({ lp with state:=LoopState.busy }:Loop) with state:=if (yX s.e).isNone then LoopState.ready else LoopState.done,pending:=yX s.e }:Loop)=lp:=by
  rw[hse];cases lp;simp only at hr1 hr2;subst hr1 hr2;rfl
 show ∃ Z' D',(∀ b,Z' b->b < (s.H.put H0.size (.loop { ({ lp with state:=LoopState.busy }:Loop) with state:=if (yX s.e).isNone then LoopState.ready else LoopState.done,pending:=yX s.e })).size)∧(rgW P wd e2 h2 zF7 H0 m0 D0 lp (mkS P [] sh ts os e2 h2)).W (gj g5 s') Z' (s.H.put H0.size (.loop { ({ lp with state:=LoopState.busy }:Loop) with state:=if (yX s.e).isNone then LoopState.ready else LoopState.done,pending:=yX s.e })) D'∧StW Z H D Z' (s.H.put H0.size (.loop { ({ lp with state:=LoopState.busy }:Loop) with state:=if (yX s.e).isNone then LoopState.ready else LoopState.done,pending:=yX s.e })) D';rw[hlp];unfold bk at hbk;split at hbk
 case h_2=>cases hbk
 rename_i a' b' c' ha' hb' hc';split at hbk
 case h_2=>cases hbk
 rename_i s2 hs2
 cases hc:(qT4 os h5&&(qKT sh.s e5 h5&&(nH (sh.b.map (·.1)) sh.b h2 h5&&(mG (sh.o++sh.b.map (·.1)) hh h5&&(mkS P [] sh ts os e2 h2 s2).isSome)))) with
 | false=>rw[hc] at hbk;cases hbk
 | true =>
   rw[hc] at hbk;cases hbk;simp only[zPK] at hc;obtain⟨⟨e6,h6⟩,hm6⟩:=zQO.1 hc.2.2.2.2;have he6:=qGT hn hm6;subst he6
   have hsd:sh.d=[]:=by
    unfold noSh at hn;simp only[zPK,List.isEmpty_iff] at hn;exact hn.1
   have hw2:qB (cO sh.d (svL ts s') (blank [] 0 e6)).2=qB (b'++c'):=by
    rw[hsd] at ha' ⊢;cases ha';exact (bQ hs2).symm
   obtain⟨ho6,_,hsub⟩:=qR0 l2 ho2 hb' hc' hw2 hm6 hos hc.1 hc.2.2.1 (fun k o hk hkb hk2=>nZ m2 (k0.trans l0) hc.2.2.2.1 (by rw[zQR,not_or];exact⟨hk,hkb⟩) (by rw[m6 k (by rw[hos];exact hk) hkb];exact hk2));obtain⟨_,_,_,_,_,n6⟩:=u6 ho2 he2 hm6;have hfz:=Fz.drop st5.hp (qC3 hsub)
   have keep:∀ b,b < H.size->¬ dY (own m (qC hh.l)) b->¬ Dg b->b≠H0.size->s.H.get b=H.get b:=fun b h1 h2 h3 h4=>by
    have g1:=sd3.keep b h1 h2 h3;have hb3:b < o.H.size:=zPP h1 sd3.size;have g2:(o.H.put H0.size (.loop { lp with state:=.busy })).get b=o.H.get b:=xZ h4;exact (sd5.keep b hb3 (fun h=>h2 (sd3.onew b h h1)) fun h=>h3 (sd3.zHS b h h1)).trans (g2.trans g1)
   have hzk:∀ b,Z b->b < H.size->s.H.get b=H.get b:=fun b h1 h2=>keep b h2 (fun h=>(bI a2.hp h).2 h1) (fun h=>wd.nz a2.wd b h h1) fun e=>a7 (e ▸ h1)
   have hz5:∀ b,Z b->Z5 b:=fun b h=>sd5.zle b (sd3.zle b h)
   have hsz:H.size<=s.H.size:=zP7 sd3.size sd5.size;have hbase:s.H.base=H.base:=sd5.base.trans sd3.base
   have hkr:KR (fun _=>false) (own m (qC hh.l)) (own m5' (qC h6.l)):=by
    refine KR.none ((kr3.trans kr5).trans (hfz.kr _)) fun k o hk=>?_
    rw[vJ] at hk;obtain⟨o',q1,_⟩:=zPV.1 hk;show (nm.p k&&!nP k ks)=false
    cases hmm:nP k ks with
    | true=>simp
    | false =>
      exfalso;obtain⟨r1,r2,r3⟩:=hks k fun hm=>by rw[xM.2 hm] at hmm;cases hmm
      rw[n6 k r1 r2,r3] at q1;cases q1
   have zI5:∀ b,dY (own m5' (qC h6.l)) b->dY (own m5' (qC h5.l)) b:=fun b ⟨k,ob,h1,h2⟩=>⟨k,ob,hfz.zIO h1,h2⟩
   have zJ3:∀ b,dY (own m5' (qC h6.l)) b->b < H.size->dY (own m (qC hh.l)) b:=fun b h1 h2=>sd3.onew b (sd5.onew b (zI5 b h1) (zPP h2 sd3.size)) h2
   have zLA:∀ b,D5 b->b < H.size->Dg b:=fun b h1 h2=>sd3.zHS b (sd5.zHS b h1 (zPP h2 sd3.size)) h2
   have st6:St P wd g5 (qB e6) (qC h6.l) Z5 s.H m5' zF7 D5:=⟨hfz.hp,a2.vrl.mono (p:=fun _=>false) hz5 hsz hzk hkr (fun j hj=>by cases hj),st5.wd,fun b h1 h2=>st5.dis b h1 (zI5 b h2)⟩
   have st7:St P wd g5 (qB e6) (qC h6.l) Z5 (s.H.put H0.size (.loop lp)) m5' zF7 D5:=by
    refine st6.other (fun _ h=>h) st6.hp.zlt (zPM _) rfl (fun b hb h=>xZ fun e=>?_) (fun b h=>?_)
    ·subst e;rcases h with h | h | h
     ·exact hl5 (zI5 _ h)
     ·exact hD5 h
     ·exact hZ5 h
    ·rcases h with h | h
     ·exact (bI st6.hp h).2
     ·exact wd.nz st6.wd b h
   refine⟨Z5,fun b=>dY (own m5' (qC h6.l)) b∨D5 b∨b=H0.size,st6.hp.zlt,⟨e6,h6,m5',D5,by rw[q0R];exact hm6,by rw[q4J];exact st7,dU,zN7,fun h=>hl5 (zI5 _ h),hD5,hZ5,fun b=>Iff.rfl,a9.trans hkr,fun b h1 h2=>a10 b (zJ3 b h1 (Nat.lt_trans h2 a4)) h2,fun b h1 h2=>a11 b (zLA b h1 (Nat.lt_trans h2 a4)) h2,hbase.trans a12⟩,?_⟩;refine⟨hsz,hbase,hz5,fun b h1 _ h3=>?_,fun b h1 h2=>?_,fun b h1 _=>absurd h1 (qDW b),fun b h1 h2=>?_⟩
   ·have hb:b≠H0.size:=fun e=>h3 ((a8 b).2 (.inr (.inr e)))
    exact (xZ hb).trans (keep b h1 (fun h=>h3 ((a8 b).2 (.inl h))) (fun h=>h3 ((a8 b).2 (.inr (.inl h)))) hb)
   ·rcases sd5.zG9 b h1 (zPP h2 sd3.size) with h | h | h
    ·rcases sd3.zG9 b h h2 with h | h | h
     ·exact .inl h
     ·exact .inr (.inr ((a8 b).2 (.inl h)))
     ·exact .inr (.inr ((a8 b).2 (.inr (.inl h))))
    ·exact .inr (.inr ((a8 b).2 (.inl (sd3.onew b h h2))))
    ·exact .inr (.inr ((a8 b).2 (.inr (.inl (sd3.zHS b h h2)))))
   ·rcases h1 with h | h | h
    ·exact (a8 b).2 (.inl (zJ3 b h h2))
    ·exact (a8 b).2 (.inr (.inl (zLA b h h2)))
    ·exact (a8 b).2 (.inr (.inr h))
theorem qWT {IT:List (FuncId×zGS)}(s:zG4 P good nat G tab)(hit:q41 P G IT){sh:Sh}{v:Operand}{ps:Array Tmp}{bx bY:Code}{x y:∀ {R':Type},Nm->GV Γ->List SV->SH->vR Γ R'->zF6 R'}{wx wy:List Nat}{hb:SH}
 (hx:∀ {R':Type} {nm:Nm} {g:GV Γ} {env:List SV} {h:SH} {K:vR Γ R'} {r:R'},OkH P h->okL h env->env.length=N->Keep hb h->(x nm g env h K).run=some r->qR P G true nm wd bx g (qB env) (qC h.l) (EQ P N wx env h K r))
 (hy:∀ {R':Type} {nm:Nm} {g:GV Γ} {env:List SV} {h:SH} {K:vR Γ R'} {r:R'},OkH P h->okL h env->env.length=N->Keep hb h->(y nm g env h K).run=some r->qR P G true nm wd bY g (qB env) (qC h.l) (EQ P N wy env h K r))
 {g:GV Γ} {env:List SV} {h:SH} {K:vR Γ R} (ho:OkH P h) (he:okL h env) (hl:env.length=N) (hbh:Keep hb h) (e:(q48 P G IT nm sh v ps bx bY x y g env h K).run=some r) :
 qR P G rd nm wd (.rangeFunc v ps bx bY) g (qB env) (qC h.l) (EQ P N [] env h K r):=by
 obtain⟨h1,wk1,kp1,ho1,e⟩:=qKK (nm:=nm) ho he e;refine qR.pre' wk1 ?_;split at e
 case h_2=>cases e
 rename_i f caps hval;split at e
 case h_2=>cases e
 rename_i ent hent;split at e
 case h_2=>cases e
 rename_i z h2 hdc;split at e
 case h_2=>cases e
 rename_i b c os hbO hcB hos;split at e
 case h_2=>cases e
 rename_i ts hts;split at e
 case h_2=>cases e
 rename_i s0 hs0;obtain⟨hck,e⟩:=qE e;simp only[zPK] at hck;obtain⟨hn,hbx,hps,hv,hcx,hcy⟩:=hck;obtain⟨_,hh0,hm0,e⟩:=pV e;obtain⟨q1,hF,e⟩:=run_bind e;obtain⟨eq,hq,hmq,eK⟩:=pV e;have he0:=qGT hn hm0;have heq:=qGT hn hmq;subst he0;subst heq;obtain⟨kp2,ho2,hfr⟩:=qFX ho1 hdc;have he2:okL h2 eq:=qJ (kp1.trans kp2) he;have zJD:=qGA hos;obtain⟨zMP,hIt⟩:=hit f ent hent;intro Z H m zF7 D hs hbs;have hpv:=qL hs.vrl v;rw[qO,hval] at hpv;simp only[SV.enc,qB] at hpv;generalize hiv:zF7.val v=iv at hpv
 cases hpv with
 | fn hf hc hfc hcc =>
 rename_i fs cs
 have hfs:fs=#[]:=by
  have:fs.size=0:=by simpa using hf.symm
  exact zRE this
 subst hfs;obtain⟨Z1,c1,r1⟩:=hfr Z H m cs.toList hs.hp ⟨by simpa using hc,fun i x v a b=>hcc i x v a (by simpa using b)⟩;have hs2:St P wd g (qB eq) (qC h2.l) Z1 H m zF7 D:=hs.step c1.hp (c1.vrl hs.vrl) c1.step
 have hw0:qB (cO sh.d (svL ts s0) (blank [] 0 eq)).2=qB (b++c):=by
  have hsd:sh.d=[]:=by
   unfold noSh at hn;simp only[zPK,List.isEmpty_iff] at hn;exact hn.1
  rw[hsd];exact (bQ hs0).symm
 obtain⟨ho0,_,zMQ⟩:=qR0 ho2 ho2 hbO hcB hw0 hm0 zJD (qNB hos) hbx (fun k o _ _ hk=>zN hk);have zIZ:=Fz.drop hs2.hp (qC3 zMQ);refine s.s.zLN hv hcx hcy hiv zMP fun lp p1 p2 p3 p4 p5 p6=>?_
 have hHL:∀ b,b < H.size->(H.push (.loop lp)).get b=H.get b:=fun b hb=>jW hb
 have hown0:∀ b,dY (own m (qC hh0.l)) b->dY (own m (qC h2.l)) b:=fun b ⟨k,ob,h1,h2⟩=>⟨k,ob,zIZ.zIO h1,h2⟩
 have hlo:¬ dY (own m (qC hh0.l)) H.size:=fun h=>zSU _ (bI zIZ.hp h).1
 have hlD:¬ D H.size:=fun h=>zSU _ (wd.lt hs2.wd _ h)
 have hlZ:¬ Z1 H.size:=fun h=>zSU _ (c1.hp.zlt _ h)
 have st0:St P wd g (qB eq) (qC hh0.l) Z1 H m zF7 D:=hs2.step zIZ.hp (zIZ.vrl hs2.vrl) zIZ.step
 have st1:St P wd g (qB eq) (qC hh0.l) Z1 (H.push (.loop lp)) m zF7 D:=by
  refine st0.other (fun _ h=>h) (fun b h=>zQ7 (c1.hp.zlt b h)) (zS3 _) rfl (fun b hb _=>hHL b hb) fun b h=>?_
  rcases h with h | h
  ·exact (bI zIZ.hp h).2
  ·exact wd.nz hs2.wd b h
 have hWi:(rgW P wd eq h2 zF7 H m D lp (mkS P [] sh ts os eq h2)).W (gj g s0) Z1 (H.push (.loop lp)) fun b=>dY (own m (qC hh0.l)) b∨D b∨b=H.size :=
  ⟨eq,hh0,m,D,by rw[q0R];exact hm0,by rw[q4J];exact st1,fH,zQI _,hlo,hlD,hlZ,fun b=>Iff.rfl,zIZ.kr _,fun b h _=>hown0 b h,fun b h _=>h,rfl⟩
 have hcall:=hIt z (GS Γ (TyL ts)) _ _ _ hF (rgW P wd eq h2 zF7 H m D lp (mkS P [] sh ts os eq h2)) H.size (fun q w q' bb hstp=>by
  refine q1Q (Γ:=Γ) (ent:=ent) hx hy ho2 he2 (hbh.trans (kp1.trans kp2)) hl hn zJD (ks:=h2.l.map (·.1)++(os.map (·.1)++sh.b.map (·.1))) (fun k hk=>?_) p1 p2 p3 p5 p6 ?_ (by rw[p4];exact hstp)
  ·simp only[zQR,not_or] at hk;refine⟨hk.2.1,hk.2.2,?_⟩
   cases hq:slk k h2.l with
   | none=>rfl
   | some o=>exact absurd (zQB.2 ⟨(k,o),qN1 hq,rfl⟩) hk.1
  ·rw[p4];exact zPL hps) Z1 (H.push (.loop lp)) _ cs.toList (fun b h=>zQ7 (c1.hp.zlt b h)) (zP7 hbs (zS3 _)) (c1.hp.gl.mono c1.hp.zlt (fun _ h=>h) fun b _ hb=>hHL b hb) hWi (r1.none (fun _ h=>h) (zS3 _) (fun b hz hb=>hHL b hb) fun _=>rfl)
 refine⟨_,hcall,?_⟩;rintro⟨rv,H'⟩ ⟨Z',D',b1,⟨e5,h5,m5,Dg,a1,a2,a3,a4,a5,a6,a7,a8,a9,a10,a11,a12⟩,sw⟩;rw[hmq] at a1;cases a1;refine q2O a3 p1 p2 fun lp'=>?_
 obtain⟨n1,n2,n3,n4,n5,n6⟩:=u6 ho2 he2 hmq;have zKS:Keep h hq:=(kp1.trans kp2).trans n1
 have stf:St P wd (Go.Sv.g1 q1) (qB eq) (qC hq.l) Z' (H'.put H.size (.loop lp')) m5 zF7 Dg:=by
  refine a2.other (fun _ h=>h) b1 (zPM _) rfl (fun b hb h=>xZ fun e=>?_) (fun b h=>?_)
  ·subst e;rcases h with h | h | h
   ·exact a5 h
   ·exact a6 h
   ·exact a7 h
  ·rcases h with h | h
   ·exact (bI a2.hp h).2
   ·exact wd.nz a2.wd b h
 have hsz:H.size<=H'.size:=zP7 (zS3 _) sw.size;refine⟨Z',m5,qB eq,qC hq.l,Go.Sv.g1 q1,Dg,stf,⟨hsz,a12,fun b h=>sw.zle b (c1.zle b h),fun b h1 h2 h3=>?_,fun b h1 h2=>?_,fun b h1 h2=>?_,fun b h1 h2=>a11 b h1 h2⟩,((c1.kr _).trans a9).up (fun k h=>by cases h),eq,hq,rfl,rfl,n3,n2,hl,zKS,fun _=>⟨n3,n2,zKS,fun _ _=>rfl,rfl⟩,eK⟩
 ·have hb:b≠H.size:=Nat.ne_of_lt h1;refine (xZ hb).trans ((sw.keep b (zQ7 h1) (qDW b) ?_).trans (hHL b h1));rintro (q | q | q)
  ·obtain⟨k,ob,w1,w2⟩:=hown0 b q;exact h2 ⟨k,ob,c1.zIO w1,w2⟩
  ·exact h3 q
  ·exact hb q
 ·rcases sw.zG9 b h1 (zQ7 h2) with q | q | q
  ·rcases c1.zG9 b q with q | q
   ·exact .inl q
   ·exact .inr (.inl q)
  ·exact absurd q (qDW b)
  ·rcases q with q | q | q
   ·obtain⟨k,ob,w1,w2⟩:=hown0 b q;exact .inr (.inl ⟨k,ob,c1.zIO w1,w2⟩)
   ·exact .inr (.inr q)
   ·exact absurd q (Nat.ne_of_lt h2)
 ·obtain⟨k,ob,w1,w2⟩:=a10 b h1 h2;exact⟨k,ob,c1.zIO w1,w2⟩
end
end Go.Sv
namespace Go.Sv
open Go.Idl
noncomputable section
variable [Gc]
variable [Frs]
variable [Yl]
variable {P:Program}{Γ:Option Type}{R:Type}{r:R}{nm:Nm}{G:Nat->Bool}{N:Nat}{rs:List Ty}{tab:uU}{nat:xI}{good:FuncId->Bool}{wd:Wld (GV Γ)}
def zC8 (an:An)(id:Nat):List (Nat×TypeId):=match lkA id an.fz with
 | some l=>l
 | none=>[]
def wr (an:An):Code->List Nat
 | .region id ops _=>(zC8 an id).map (·.1)++(ops.toList.filterMap (·.dst)++(zC8 an (id+1000000)).map (·.1))
 | .seq a b=>wr an a++wr an b
 | .cond _ a b=>wr an a++wr an b
 | .block id x=>match lkA id an.lp with
   | some sh=>lpW (wr an x) sh
   | none=>wr an x
 | .loop x=>wr an x
 | .scope x=>wr an x
 | _=>[]
def nx2:List Oper->Option (Operand×Nat×Nat)
 | [⟨some d1,.next x false,_,_,_,none⟩,⟨some d2,.extract (.tmp e1) 0,_,_,_,none⟩]=>cond (Nat.beq d1 e1) (some (x,d1,d2)) none
 | _=>none
theorem zEP {l:List Oper}{x:Operand}{d1 d2:Nat}(h:nx2 l=some (x,d1,d2)):∃ o1 o2,l=[o1,o2]∧o1.op=.next x false∧o1.dst=some d1∧o1.guard=none∧o2.op=.extract (.tmp d1) 0∧o2.dst=some d2∧o2.guard=none:=by
 unfold nx2 at h;split at h
 case h_2=>cases h
 rename_i d1' x' t1 p1 a1 d2' e1 t2 p2 a2
 cases hc:Nat.beq d1' e1 with
 | false=>rw[hc] at h;cases h
 | true =>
   rw[hc] at h;cases h;have:=zPL hc;subst this;exact⟨_,_,rfl,rfl,rfl,rfl,rfl,rfl,rfl⟩
structure MB (Γ:Option Type) where
 ops:Array Oper
 t:Nat
 j:Nat
 body:∀ (R':Type),GV Γ->List SV->SH->vR Γ R'->zF6 R'
def zBJ (id:Nat)(body:∀ {R':Type},GV Γ->List SV->SH->vR Γ R'->zF6 R')(K:vR Γ R):Nat->GV Γ->List SV->SH->zF6 R
 | 0,_,_,_=>.fail
 | n+1,g,env,h=>body g env h fun e g env h=>match e with
   | .normal=>zBJ id body K n g env h
   | .exit i=>cond (Nat.beq i id) (K .normal g env h) (K (.exit i) g env h)
   | .ret=>K .ret g env h
   | .goto _=>.fail
def shN (nm:Nm)(k:Nat):Nm:=⟨nm.b+k,nm.p⟩
def qY4 (id s:Nat)(body:∀ {R':Type},Nm->GV Γ->List SV->SH->vR Γ R'->zF6 R')(K:vR Γ R):Nat->Nm->GV Γ->List SV->SH->zF6 R
 | 0,_,_,_,_=>.fail
 | n+1,nm,g,env,h=>body nm g env h fun e g env h=>match e with
   | .normal=>qY4 id s body K n (shN nm s) g env h
   | .exit i=>cond (Nat.beq i id) (K .normal g env h) (K (.exit i) g env h)
   | .ret=>K .ret g env h
   | .goto _=>.fail
def zFM:List (Nat×TypeId)->Nat
 | (s,_)::_=>s
 | []=>0
def zFN (y:GV Γ->List SV->SH->vR Γ R->zF6 R)(K:vR Γ R):vR Γ R:=fun e g env h=>match e with
 | .normal=>y g env h K
 | e=>K e g env h
def zF3 (K:vR Γ R):vR Γ R:=fun e g env h=>match e with
 | .goto _=>.fail
 | e=>K e g env h
def frC:Code->Option Nat
 | .region id _ _=>some id
 | .seq a _=>frC a
 | .scope x=>frC x
 | .block _ x=>frC x
 | .loop x=>frC x
 | _=>none
def jnR (an:An):Code->Option zIV
 | .region id _ _=>lkA (id+2000000) an.jn
 | _=>none
def jnE (an:An)(a b:Code):Option zIV:=match jnR an a with
 | some j=>some j
 | none=>(match frC b with
   | some id=>lkA id an.jn
   | none=>none)
def zEG:Operand->Nat
 | .tmp t=>t
 | _=>0
section
variable (P:Program)(G:Nat->Bool)(T:zT)(IT:List (FuncId×zGS))(CI:CIT)(Y:YI (GV Γ))(an:An)(rdv:List SV->SH->Option (TyL rs))(en:TyL rs->List SV)(hb:SH)
def ev:Code->{R:Type}->Bool->Nm->GV Γ->List SV->SH->vR Γ R->zF6 R
 | .skip,_,_,_,g,env,h,K=>K .normal g env h
 | .label _,_,_,_,g,env,h,K=>K .normal g env h
 | .ret,_,_,_,g,env,h,K=>K .ret g env h
 | .exit id,_,_,_,g,env,h,K=>K (.exit id) g env h
 | .seq a b,_,rd,nm,g,env,h,K=>(match jnE an a b with
   | some j=>zB5 P (wr an a) j (fun {_}=>ev a rd nm) g env h fun g env h=>ev b rd nm g env h K
   | none=>ev a rd nm g env h (zFN (ev b rd nm) K))
 | .cond v a b,_,rd,nm,g,env,h,K=>cond (jC G v) (match asB (kE env v) with
   | some t=>.ite t (ev a rd nm g env h K) (ev b rd nm g env h K)
   | none=>(match kE env v with
     | .bq=>.both (ev a rd nm g env h K) (ev b rd nm g env h K)
     | _=>.fail)) .fail
 | .region id ops d,_,rd,nm,g,env,h,K=>fzv P nm (zC8 an id) env h fun env h=>zEO P G T CI Y nm ops d g env h fun g env h=>fzv P nm (zC8 an (id+1000000)) env h fun env h=>K .normal g env h
 | .block id (.loop y),_,rd,nm,g,env,h,K=>(match lkA id an.lp with
   | some sh=>(match lkA id an.ab with
     | none=>zB4 P nm (wr an y) (lpW (wr an y) sh) rdv en hb sh id (fun {_}=>ev y rd nm) g env h K
     | some _=>.fail)
   | none=>(match lkA (id+3000000) an.fz with
     | some l=>qY4 id (zFM l) (fun {_} nm=>ev y rd nm) K 24 nm g env h
     | none=>zBJ id (fun {_}=>ev y rd nm) K 24 g env h))
 | .block id x,_,rd,nm,g,env,h,K=>(match lkA id an.lp with
   | some _=>.fail
   | none=>ev x rd nm g env h (zE5 id K))
 | .scope x,_,rd,nm,g,env,h,K=>ev x rd nm g env h (zF3 K)
 | .rangeFunc v ps x y,_,rd,nm,g,env,h,K=>(match lkA (zEG v) an.rg with
   | some sh=>q48 P G IT nm sh v ps x y (fun {_}=>ev x true) (fun {_}=>ev y true) g env h K
   | none=>.fail)
 | _,_,_,_,_,_,_,_=>.fail
end
theorem EQ.go {w w2:List Nat}{env zGC:List SV}{h h1:SH}{K:vR Γ R}{e:zHB}{g:GV Γ}{pe:List PV}{ph:PHp}(a:xQ P w env h zGC h1)(b:EQ P N w2 zGC h1 K r e g pe ph):EQ P N (w++w2) env h K r e g pe ph:=by
 obtain⟨env',h',b1,b2,b3,b4,b5,b0,b6,b7⟩:=b;exact⟨env',h',b1,b2,b3,b4,b5,a.2.2.1.trans b0,fun hne=>a.trans (b6 hne),b7⟩
theorem EQ.up {w w2:List Nat}{env:List SV}{h:SH}{K:vR Γ R}{e:zHB}{g:GV Γ}{pe:List PV}{ph:PHp}(hw:∀ i∈w,i∈w2)(b:EQ P N w env h K r e g pe ph):EQ P N w2 env h K r e g pe ph:=by
 obtain⟨env',h',b1,b2,b3,b4,b5,b0,b6,b7⟩:=b;exact⟨env',h',b1,b2,b3,b4,b5,b0,fun hne=>(b6 hne).up hw,b7⟩
theorem EQ.now {w:List Nat}{env:List SV}{h:SH}{K:vR Γ R}{e:zHB}{g:GV Γ}(ho:OkH P h)(he:okL h env)(hl:env.length=N)(hk:(K e g env h).run=some r):EQ P N w env h K r e g (qB env) (qC h.l) :=
 ⟨env,h,rfl,rfl,he,ho,hl,.refl _,fun _=>(xQ.refl ho he).up fun i hi=>by (cases hi),hk⟩
theorem zEH {id:Nat}{w:List Nat}{env:List SV}{h:SH}{K:vR Γ R}{e:zHB}{g:GV Γ}{pe:List PV}{ph:PHp}(b:EQ P N w env h (zE5 id K) r e g pe ph):BQY id (EQ P N w env h K r) e g pe ph:=by
 obtain⟨env',h',b1,b2,b3,b4,b5,b0,b6,b7⟩:=b
 cases e with
 | normal=>exact BQY.go ⟨env',h',b1,b2,b3,b4,b5,b0,b6,b7⟩
 | ret=>exact BQY.rt ⟨env',h',b1,b2,b3,b4,b5,b0,b6,b7⟩
 | goto l=>exact⟨env',h',b1,b2,b3,b4,b5,b0,b6,b7⟩
 | exit i =>
   have b8:(cond (Nat.beq i id) (K .normal g env' h') (K (.exit i) g env' h')).run=some r:=b7
   cases hi:Nat.beq i id with
   | true =>
     rw[hi] at b8;have:=zPL hi;subst this;exact BQY.on ⟨env',h',b1,b2,b3,b4,b5,b0,fun _=>b6 fun h=>by (cases h),b8⟩
   | false =>
     rw[hi] at b8;exact BQY.ex (fun h=>by rw[h,aI] at hi;cases hi) ⟨env',h',b1,b2,b3,b4,b5,b0,b6,b8⟩
omit [Yl] in
theorem q2P {ops:List Oper}{i:Nat}(h:i ∉ ops.filterMap (·.dst)):some i ∉ ops.map (·.dst):=fun hm=>by
 obtain⟨o,h1,h2⟩:=zQB.1 hm;exact h (zRZ.2 ⟨o,h1,h2⟩)
def q9S (P:Program)(G:Nat->Bool)(T:zT)(IT:List (FuncId×zGS))(CI:CIT)(Y:YI (GV Γ))(an:An)(rdv:List SV->SH->Option (TyL rs))(en:TyL rs->List SV)(hb:SH)(N:Nat)(wd:Wld (GV Γ))(rd:Bool)(nm:Nm)(c:Code):Prop :=
 ∀ {R:Type} {g:GV Γ} {env:List SV} {h:SH} {K:vR Γ R} {r:R},OkH P h->okL h env->env.length=N->Keep hb h->(ev P G T IT CI Y an rdv en hb c rd nm g env h K).run=some r->qR P G rd nm wd c g (qB env) (qC h.l) (EQ P N (wr an c) env h K r)
theorem q7Z {w:List Nat}{id:Nat}{y:Code}{hb:SH}{body:∀ {R':Type},GV Γ->List SV->SH->vR Γ R'->zF6 R'}{rd:Bool}
 (hbody:∀ {R':Type} {g:GV Γ} {env:List SV} {h:SH} {K:vR Γ R'} {r:R'},OkH P h->okL h env->env.length=N->Keep hb h->(body g env h K).run=some r->qR P G rd nm wd y g (qB env) (qC h.l) (EQ P N w env h K r))
 {g:GV Γ} {env:List SV} {h:SH} {K:vR Γ R} {n:Nat} (ho:OkH P h) (he:okL h env) (hl:env.length=N) (hbh:Keep hb h) (e:(zBJ id (fun {_}=>body) K n g env h).run=some r) :
 qR P G rd nm wd (.block id (.loop y)) g (qB env) (qC h.l) (EQ P N w env h K r):=by
 refine qR.zK7 (fun n g1 pe ph=>∃ zGC h1,pe=qB zGC∧ph=qC h1.l∧okL h1 zGC∧OkH P h1∧zGC.length=N∧Keep h h1∧xQ P w env h zGC h1∧(zBJ id (fun {_}=>body) K n g1 zGC h1).run=some r) ?_ (n:=n) ⟨env,h,rfl,rfl,he,ho,hl,.refl _,(xQ.refl ho he).up fun i hi=>by (cases hi),e⟩;rintro n1 g1 pe ph ⟨zGC,h1,rfl,rfl,b3,b4,b5,b6,b7,b8⟩
 cases n1 with
 | zero=>cases b8
 | succ n1 =>
   unfold zBJ at b8;refine (hbody b4 b3 b5 (hbh.trans b6) b8).mono ?_;rintro x g2 pe ph ⟨env',h',rfl,rfl,c3,c4,c5,c0,c6,c7⟩
   have up:x≠.ret->xQ P w env h env' h':=fun hne=>(b7.trans (c6 hne)).up fun i hi=>by
    rcases zQR.1 hi with q | q <;> exact q
   cases x with
   | normal=>exact⟨n1,zQI _,env',h',rfl,rfl,c3,c4,c5,b6.trans c0,up fun h=>by (cases h),c7⟩
   | ret=>exact BQY.rt ⟨env',h',rfl,rfl,c3,c4,c5,b6.trans c0,fun hne=>absurd rfl hne,c7⟩
   | goto l=>cases c7
   | exit i =>
     have c8:(cond (Nat.beq i id) (K .normal g2 env' h') (K (.exit i) g2 env' h')).run=some r:=c7
     cases hi:Nat.beq i id with
     | true =>
       rw[hi] at c8;have:=zPL hi;subst this;exact BQY.on ⟨env',h',rfl,rfl,c3,c4,c5,b6.trans c0,fun _=>up fun h=>by (cases h),c8⟩
     | false =>
       rw[hi] at c8;exact BQY.ex (fun h=>by rw[h,aI] at hi;cases hi) ⟨env',h',rfl,rfl,c3,c4,c5,b6.trans c0,fun _=>up fun h=>by (cases h),c8⟩
theorem q52 {nm':Nm}{wd:Wld (GV Γ)}{rd:Bool}{c:Code}{g:GV Γ}{env:List PV}{ph:PHp}{Q:YQ (GV Γ)}(h:qR P G rd nm' wd c g env ph Q)(e:nm'.p=nm.p):qR P G rd nm wd c g env ph Q:=by
 have e2:inP nm'=inP nm:=e;unfold qR at h ⊢;rw[e2] at h;exact h
theorem q0I {sf:Nat}{w:List Nat}{id:Nat}{y:Code}{hb:SH}{body:∀ {R':Type},Nm->GV Γ->List SV->SH->vR Γ R'->zF6 R'}{rd:Bool}
 (hbody:∀ {R':Type} {nm':Nm} {g:GV Γ} {env:List SV} {h:SH} {K:vR Γ R'} {r:R'},OkH P h->okL h env->env.length=N->Keep hb h->(body nm' g env h K).run=some r->qR P G rd nm' wd y g (qB env) (qC h.l) (EQ P N w env h K r))
 {g:GV Γ} {env:List SV} {h:SH} {K:vR Γ R} {n:Nat} {nm1:Nm} (hnm:nm1.p=nm.p) (ho:OkH P h) (he:okL h env) (hl:env.length=N) (hbh:Keep hb h) (e:(qY4 id sf (fun {_}=>body) K n nm1 g env h).run=some r) :
 qR P G rd nm wd (.block id (.loop y)) g (qB env) (qC h.l) (EQ P N w env h K r):=by
 refine qR.zK7 (fun n g1 pe ph=>∃ zGC h1,pe=qB zGC∧ph=qC h1.l∧okL h1 zGC∧OkH P h1∧zGC.length=N∧Keep h h1∧xQ P w env h zGC h1∧∃ nm2:Nm,nm2.p=nm.p∧(qY4 id sf (fun {_}=>body) K n nm2 g1 zGC h1).run=some r) ?_ (n:=n) ⟨env,h,rfl,rfl,he,ho,hl,.refl _,(xQ.refl ho he).up fun i hi=>by (cases hi),nm1,hnm,e⟩;rintro n1 g1 pe ph ⟨zGC,h1,rfl,rfl,b3,b4,b5,b6,b7,nm2,bp,b8⟩
 cases n1 with
 | zero=>cases b8
 | succ n1 =>
   unfold qY4 at b8;refine qR.mono (q52 (hbody b4 b3 b5 (hbh.trans b6) b8) bp) ?_;rintro x g2 pe ph ⟨env',h',rfl,rfl,c3,c4,c5,c0,c6,c7⟩
   have up:x≠.ret->xQ P w env h env' h':=fun hne=>(b7.trans (c6 hne)).up fun i hi=>by
    rcases zQR.1 hi with q | q <;> exact q
   cases x with
   | normal=>exact⟨n1,zQI _,env',h',rfl,rfl,c3,c4,c5,b6.trans c0,up fun h=>by (cases h),shN nm2 sf,bp,c7⟩
   | ret=>exact BQY.rt ⟨env',h',rfl,rfl,c3,c4,c5,b6.trans c0,fun hne=>absurd rfl hne,c7⟩
   | goto l=>cases c7
   | exit i =>
     have c8:(cond (Nat.beq i id) (K .normal g2 env' h') (K (.exit i) g2 env' h')).run=some r:=c7
     cases hi:Nat.beq i id with
     | true =>
       rw[hi] at c8;have:=zPL hi;subst this;exact BQY.on ⟨env',h',rfl,rfl,c3,c4,c5,b6.trans c0,fun _=>up fun h=>by (cases h),c8⟩
     | false =>
       rw[hi] at c8;exact BQY.ex (fun h=>by rw[h,aI] at hi;cases hi) ⟨env',h',rfl,rfl,c3,c4,c5,b6.trans c0,fun _=>up fun h=>by (cases h),c8⟩
theorem qU3 {T:zT}{IT:List (FuncId×zGS)}{CI:CIT}{Y:YI (GV Γ)}{an:An}{rdv:List SV->SH->Option (TyL rs)}{en:TyL rs->List SV}{hb:SH}{rd:Bool}{id:Nat}{y:Code}(s:zG4 P good nat G tab)(hrd:zJC P nm N hb rdv en)
 (hY:q9S P G T IT CI Y an rdv en hb N wd rd nm y) (hYn:∀ nm',q9S P G T IT CI Y an rdv en hb N wd rd nm' y) (hZ:∀ rid ops t j z,y=.seq (.region rid ops false) (.seq (.cond (.tmp t) .skip (.exit j)) z)->q9S P G T IT CI Y an rdv en hb N wd rd nm z)
 {g:GV Γ} {env:List SV} {h:SH} {K:vR Γ R} (ho:OkH P h) (he:okL h env) (hl:env.length=N) (hbh:Keep hb h) (e:(ev P G T IT CI Y an rdv en hb (.block id (.loop y)) rd nm g env h K).run=some r) :
 qR P G rd nm wd (.block id (.loop y)) g (qB env) (qC h.l) (EQ P N (wr an (.block id (.loop y))) env h K r):=by
 have e1:=e;unfold ev at e1;split at e1
 ·rename_i sh hsh;have hw:wr an (.block id (.loop y))=lpW (wr an y) sh:=by simp only[wr,hsh]
  rw[hw];split at e1
  ·exact q0L hrd rfl hY ho he hl hbh e1
  ·cases e1
 ·rename_i hn;have hw:wr an (.block id (.loop y))=wr an y:=by simp only[wr,hn]
  rw[hw];split at e1
  ·exact q0I (nm1:=nm) (fun ho he hl hbh e=>hYn _ ho he hl hbh e) rfl ho he hl hbh e1
  ·exact q7Z hY ho he hl hbh e1
theorem jS [zGT P G]{T:zT}{IT:List (FuncId×zGS)}{CI:CIT}{Y:YI (GV Γ)}{an:An}{rdv:List SV->SH->Option (TyL rs)}{en:TyL rs->List SV}{hb:SH}(s:zG4 P good nat G tab)(ht:qRS tab T)(hit:q41 P G IT)(hci:qUY P G CI)(hy:YOk P G wd Y)(hrd:∀ nm,zJC P nm N hb rdv en) :
 ∀ (c:Code),(∀ rd nm,q9S P G T IT CI Y an rdv en hb N wd rd nm c)∧∀ a b,c=.seq a b->(∀ rd nm,q9S P G T IT CI Y an rdv en hb N wd rd nm b)∧∀ a' b',b=.seq a' b'->∀ rd nm,q9S P G T IT CI Y an rdv en hb N wd rd nm b'
 | .skip=>⟨fun rd nm {_ g env h K r} ho he hl hbh e=>.skip (.now ho he hl e),fun a b h=>by cases h⟩
 | .label _=>⟨fun rd nm {_ g env h K r} ho he hl hbh e=>.label (.now ho he hl e),fun a b h=>by cases h⟩
 | .ret=>⟨fun rd nm {_ g env h K r} ho he hl hbh e=>.ret (.now ho he hl e),fun a b h=>by cases h⟩
 | .exit id=>⟨fun rd nm {_ g env h K r} ho he hl hbh e=>.exit (.now ho he hl e),fun a b h=>by cases h⟩
 | .seq a b=>by
   refine⟨fun rd nm {_ g env h K r} ho he hl hbh e=>?_,fun a' b' hh=>by
    cases hh
    exact⟨(jS s ht hit hci hy hrd b).1,fun a2 b2 h2=>((jS s ht hit hci hy hrd b).2 a2 b2 h2).1⟩⟩
   unfold ev at e;split at e
   ·refine .seq ((q26 (fun e1=>(jS s ht hit hci hy hrd a).1 _ _ ho he hl hbh e1) ho he hl e).mono fun x g' pe ph hq=>?_);obtain⟨rfl,zGN,h2,rfl,rfl,b1,b2,b3,b4,b5⟩:=hq;show qR P G rd nm wd b g' _ _ _;exact ((jS s ht hit hci hy hrd b).1 _ _ b1 b2 b3 (hbh.trans b4.2.2.1) b5).mono fun x g' pe ph hq=>EQ.go b4 hq
   refine .seq (((jS s ht hit hci hy hrd a).1 _ _ ho he hl hbh e).mono fun x g' pe ph hq=>?_);obtain⟨env',h',b1,b2,b3,b4,b5,b0,b6,b7⟩:=hq
   cases x with
   | normal =>
     have b7:(ev P G T IT CI Y an rdv en hb b rd nm g' env' h' K).run=some r:=b7;subst b1 b2;show qR P G rd nm wd b g' _ _ _;refine ((jS s ht hit hci hy hrd b).1 _ _ b4 b3 b5 (hbh.trans b0) b7).mono fun x g' pe ph hq=>?_
     exact EQ.go (b6 fun h=>by (cases h)) hq
   | exit i=>exact⟨env',h',b1,b2,b3,b4,b5,b0,fun hne=>(b6 hne).up fun i hi=>zQW _ hi,b7⟩
   | ret=>exact⟨env',h',b1,b2,b3,b4,b5,b0,fun hne=>absurd rfl hne,b7⟩
   | goto l=>exact⟨env',h',b1,b2,b3,b4,b5,b0,fun hne=>(b6 hne).up fun i hi=>zQW _ hi,b7⟩
 | .cond v a b=>by
   refine⟨fun rd nm {_ g env h K r} ho he hl hbh e=>?_,fun a b h=>by cases h⟩;obtain⟨c1,e1⟩:=qE e;split at e1
   ·rename_i t hv;have hpv:qK (qB env) v=fvv (.bool t):=by rw[qO];exact sS hv
    rcases run_ite e1 with ⟨z,e2⟩ | ⟨z,e2⟩
    ·exact .cond c1 hpv (fun _=>((jS s ht hit hci hy hrd a).1 _ _ ho he hl hbh e2).mono fun x g pe ph hq=>hq.up fun i hi=>zQW _ hi) (fun hf=>by rw[z] at hf;cases hf)
    ·exact .cond c1 hpv (fun hf=>by rw[z] at hf;cases hf) (fun _=>((jS s ht hit hci hy hrd b).1 _ _ ho he hl hbh e2).mono fun x g pe ph hq=>hq.up fun i hi=>zRI _ hi)
   ·split at e1
    case h_2=>cases e1
    rename_i hv;have hpv:qK (qB env) v=.bq:=by rw[qO,hv];simp[SV.enc]
    obtain⟨e2,e3⟩:=q1U e1;exact .zMH c1 hpv (((jS s ht hit hci hy hrd a).1 _ _ ho he hl hbh e2).mono fun x g pe ph hq=>hq.up fun i hi=>zQW _ hi) (((jS s ht hit hci hy hrd b).1 _ _ ho he hl hbh e3).mono fun x g pe ph hq=>hq.up fun i hi=>zRI _ hi)
 | .region id ops d=>by
   refine⟨fun rd nm {_ g env h K r} ho he hl hbh e=>?_,fun a b h=>by cases h⟩;obtain⟨zGC,h1,w1,q1,e1⟩:=qR9 (nm:=nm) ho he e;refine qR.pre' w1 (qR.post ((q6T s ht hci hy q1.2.1 q1.1 e1).mono ?_));rintro x g' pe ph ⟨rfl,env',h',rfl,rfl,b3,b4⟩;obtain⟨zGN,h2,w2,q2,e2⟩:=qR9 (nm:=nm) b3.2.1 b3.1 b4
   have b5:xQ P (ops.toList.filterMap (·.dst)) zGC h1 env' h':=⟨b3.1,b3.2.1,b3.2.2.1,fun i hi=>b3.2.2.2.1 i (q2P hi),b3.2.2.2.2⟩
   have b6:=b5.trans q2;exact⟨qB zGN,qC h2.l,w2,EQ.go q1 ⟨zGN,h2,rfl,rfl,q2.1,q2.2.1,by rw[b6.2.2.2.2,q1.2.2.2.2,hl],b6.2.2.1,fun _=>b6,e2⟩⟩
 | .block id x=>by
   refine⟨fun rd nm {_ g env h K r} ho he hl hbh e=>?_,fun a b h=>by cases h⟩
   cases x with
   | loop y =>
     exact qU3 s (hrd nm) ((jS s ht hit hci hy hrd y).1 _ _) (fun nm'=>(jS s ht hit hci hy hrd y).1 _ nm') (fun rid ops t j z hz=>((jS s ht hit hci hy hrd y).2 _ _ hz).2 _ _ rfl _ _) ho he hl hbh e
   | _ =>
     all_goals
      have e1:=e;unfold ev at e1;split at e1
      ·cases e1
      ·rename_i hn;simp only[wr,hn];exact .block (((jS s ht hit hci hy hrd _).1 _ _ ho he hl hbh e1).mono fun x g pe ph hq=>zEH hq)
 | .loop _=>⟨fun rd nm {_ _ _ _ _ _} _ _ _ _ e=>(by cases e),fun a b h=>by cases h⟩
 | .rangeFunc v ps x y=>by
   refine⟨fun rd nm {_ g env h K r} ho he hl hbh e=>?_,fun a b h=>by cases h⟩;unfold ev at e;split at e
   ·rename_i sh hsh;exact qWT s hit (fun ho he hl hbh e=>(jS s ht hit hci hy hrd x).1 _ _ ho he hl hbh e) (fun ho he hl hbh e=>(jS s ht hit hci hy hrd y).1 _ _ ho he hl hbh e) ho he hl hbh e
   ·cases e
 | .scope x=>by
   refine⟨fun rd nm {_ g env h K r} ho he hl hbh e=>?_,fun a b h=>by cases h⟩;refine .scope (((jS s ht hit hci hy hrd x).1 _ _ ho he hl hbh e).mono fun ex g' pe ph hq=>?_);obtain⟨env',h',b1,b2,b3,b4,b5,b0,b6,b7⟩:=hq
   cases ex with
   | goto l=>cases b7
   | normal=>exact⟨fun _ h=>by (cases h),env',h',b1,b2,b3,b4,b5,b0,b6,b7⟩
   | ret=>exact⟨fun _ h=>by (cases h),env',h',b1,b2,b3,b4,b5,b0,b6,b7⟩
   | exit i=>exact⟨fun _ h=>by (cases h),env',h',b1,b2,b3,b4,b5,b0,b6,b7⟩
 | .goto _=>⟨fun rd nm {_ _ _ _ _ _} _ _ _ _ e=>(by cases e),fun a b h=>by cases h⟩
 | .refuse _=>⟨fun rd nm {_ _ _ _ _ _} _ _ _ _ e=>(by cases e),fun a b h=>by cases h⟩
theorem q3E [zGT P G]{T:zT}{IT:List (FuncId×zGS)}{CI:CIT}{Y:YI (GV Γ)}{an:An}{rdv:List SV->SH->Option (TyL rs)}{en:TyL rs->List SV}{hb:SH}(s:zG4 P good nat G tab)(ht:qRS tab T)(hit:q41 P G IT)(hci:qUY P G CI)(hy:YOk P G wd Y)(hrd:∀ nm,zJC P nm N hb rdv en) :
 ∀ (c:Code) {R:Type} {rd:Bool} {nm:Nm} {g:GV Γ} {env:List SV} {h:SH} {K:vR Γ R} {r:R},OkH P h->okL h env->env.length=N->Keep hb h->(ev P G T IT CI Y an rdv en hb c rd nm g env h K).run=some r->qR P G rd nm wd c g (qB env) (qC h.l) (EQ P N (wr an c) env h K r) :=
 fun c {R rd nm g env h K r} ho he hl hbh e=>(jS s ht hit hci hy hrd c).1 rd nm ho he hl hbh e
end
end Go.Sv
namespace Go.Sv
open Go.Idl
noncomputable section
variable [Gc]
variable [Frs]
variable [Yl]
variable {P:Program}{R:Type}{r:R}{nm:Nm}{G:Nat->Bool}{N:Nat}{tab:uU}{good:FuncId->Bool}
def u7 (P:Program)(ty:TypeId)(t:Ty):Bool:=match qMJ P ty with
 | some true=>!t.one&&(match szT P ty with
   | some n=>Nat.beq n t.w
   | none=>false)
 | some false=>t.one
 | none=>false
omit [Yl] in
theorem qTV {ty:TypeId}{t:Ty}{x:t.sem}{ph:PHp}(e:u7 P ty t=true):fT P ty (q36 t x) ph=some (t.pv x):=by
 unfold u7 at e;show qOS P ty (t.cells x) 0=_;unfold qOS Ty.pv;split at e
 ·rename_i h1;rw[h1];simp only;split at e
  ·rename_i n hn;rw[hn];rw[zPK] at e;have h2:n=t.w:=zPL e.2;have h3:t.one=false:=by simpa using e.1
   subst h2;have h4:Nat.ble (0+t.w) (t.cells x).length=true:=zPY (by rw[t.zGG];omega);simp only[h4,cond_true,h3,cond_false,zQ4];rw[zQD (by rw[t.zGG];exact zPM _)]
  ·rw[zPK] at e;cases e.2
 ·rename_i h1;rw[h1];simp only[e,cond_true];rw[Ty.cells_one e];rfl
 ·cases e
def qZ1:ResultVar->Nat
 | .tmp t=>t
 | .cell a _=>a
def qT0:ResultVar->Option TypeId
 | .tmp _=>none
 | .cell _ ty=>some ty
def zAO (ty:TypeId)(v:SV)(h:SH):Bool:=match v with
 | .ref k _ _=>(match slk k h.l with
   | some (.cells el _ _)=>Nat.beq el ty
   | _=>false)
 | _=>false
theorem qXA {ty:TypeId}{t:Ty}{v:SV}{h:SH}{x:t.sem}{h':SH}(ho:OkH P h)(e:qDB P t v h=some (x,h'))(hel:zAO ty v h=true)(h1:t.one=false):rt1 P ty (t.pv x)=t.pv x:=by
 unfold qDB at e;unfold zAO at hel;split at e
 case h_2=>cases e
 rename_i k off w;split at e
 case h_2=>cases e
 rename_i el w0 l hk;simp only[hk] at hel;have hel:el=ty:=zPL hel;subst hel
 cases hc:(!spec P el&&(Nat.beq off 0&&Nat.beq w l.length)) with
 | false=>rw[hc] at e;cases e
 | true =>
   rw[hc] at e;simp only[cond_true] at e;split at e
   case h_2=>cases e
   rename_i y zGO h2 hd;cases e;have hd0:=fO (k:=k) ho;obtain⟨a1,a2,a3,ys,a4,a5⟩:=qCK hd0.2 (qJ hd0.1 (ho.cells _ _ _ _ hk)) hd;unfold Ty.pv;rw[h1];show PV.agg (rtL (rtC P) (wB P 8 el) ((t.cells x).map .f))=_;have:=(a5 []).2;rw[zRF] at this;rw[this];cases zGO <;> simp[rtL]
def olL:List TypeId->Ty->Option (List TypeId)
 | tys,.pair a b=>(match olL tys a with
   | some r=>olL r b
   | none=>none)
 | ty::tys,.ol _ _=>cond (Gc.ol ty) (some tys) none
 | [],.ol _ _=>none
 | tys,t=>cond t.nol (some (tys.drop t.w)) none
def zC9 (t:Ty)(v:SV):Option t.sem:=match v with
 | .lp t' [x] 0 0=>if e:t'=t then some (e ▸ x) else none
 | _=>none
omit [Yl] in
theorem q3P {t:Ty}{v:SV}{x:t.sem}(e:zC9 t v=some x):v=.lp t [x] 0 0:=by
 unfold zC9 at e;split at e
 ·rename_i t' y;split at e
  ·rename_i h;subst h;cases e;rfl
  ·cases e
 ·cases e
def q06 (P:Program)(c:Option TypeId)(ty:TypeId)(t:Ty)(v:SV)(h:SH):Option (t.sem×SH):=match c with
 | none=>q67 P ty t v h
 | some ty2=>match zC9 t v with
   | some x=>cond (u7 P ty2 t&&(t.nol||(!t.one&&(olL (wB P 8 ty) t).isSome))) (some (x,h)) none
   | none=>cond (u7 P ty2 t&&(t.nol||(!t.one&&zAO ty v h))) (qDB P t v h) none
def qIR (c:Option TypeId)(t:Ty)(x:t.sem):SV:=match c with
 | none=>t.sv x
 | some _=>.lp t [x] 0 0
def qJI (P:Program):List (Option TypeId)->List TypeId->(ts:List Ty)->List SV->SH->Option (TyL ts×SH)
 | [],_,[],[],h=>some ((),h)
 | c::cs,ty::_,[t],v::vs,h=>(match cs,vs with
   | [],[]=>q06 P c ty t v h
   | _,_=>none)
 | c::cs,ty::tys,t::u::ts,v::vs,h=>match q06 P c ty t v h with
   | some (x,h1)=>(match qJI P cs tys (u::ts) vs h1 with
     | some (y,h2)=>some ((x,y),h2)
     | none=>none)
   | none=>none
 | _,_,_,_,_=>none
def svM:List (Option TypeId)->(ts:List Ty)->TyL ts->List SV
 | _,[],_=>[]
 | c::_,[t],x=>[qIR c t x]
 | [],[t],x=>[t.sv x]
 | c::cs,t::u::ts,x=>qIR c t x.1::svM cs (u::ts) x.2
 | [],t::u::ts,x=>t.sv x.1::svM [] (u::ts) x.2
omit [Yl] in
theorem qWK {h:SH}(c:Option TypeId)(t:Ty)(x:t.sem):(qIR c t x).ok h:=by
 cases c with
 | none=>exact qJO t x
 | some _=>simp[qIR,SV.ok]
omit [Yl] in
theorem qWW {h:SH}:∀ (cs:List (Option TypeId)) (ts:List Ty) (x:TyL ts),okL h (svM cs ts x)
 | _,[],_=>by simp[svM,okL]
 | c::_,[t],x=>by simp only[svM,okL];exact⟨qWK c t x,trivial⟩
 | [],[t],x=>by simp only[svM,okL];exact⟨qJO t x,trivial⟩
 | c::cs,t::u::ts,x=>by
   show okL h (qIR c t x.1::svM cs (u::ts) x.2);simp only[okL];exact⟨qWK c t x.1,qWW cs (u::ts) x.2⟩
 | [],t::u::ts,x=>by
   show okL h (t.sv x.1::svM [] (u::ts) x.2);simp only[okL];exact⟨qJO t x.1,qWW [] (u::ts) x.2⟩
omit [Yl] in
theorem qOL:∀ (cs:List (Option TypeId)) (ts:List Ty) (x:TyL ts),(svM cs ts x).length=ts.length
 | _,[],_=>by simp[svM]
 | c::_,[t],x=>rfl
 | [],[t],x=>rfl
 | c::cs,t::u::ts,x=>by
   show (qIR c t x.1::svM cs (u::ts) x.2).length=_;simp only[zP5,qOL cs (u::ts)]
 | [],t::u::ts,x=>by
   show (t.sv x.1::svM [] (u::ts) x.2).length=_;simp only[zP5,qOL [] (u::ts)]
theorem qQM (c:Option TypeId)(t:Ty)(x:t.sem)(Z:Nat->Prop)(H:IH)(M M':Nat->Option (Nat×PO))(v:Value)(h:VR P Z H M (qIR c t x).enc v):VR P Z H M' (qIR c t x).enc v:=by
 cases c with
 | none =>
   simp only[qIR,pK] at h ⊢;exact bX h (qXC t x)
 | some _ =>
   simp only[qIR,SV.enc] at h ⊢
   cases h with
   | lp a b c d=>exact .lp a b c d
omit [Yl] in
theorem qAJ {ty:TypeId}:∀ (t:Ty) (x:t.sem) (c:FV),t.nol=true->c∈t.cells x->rt0 P ty (.f c)=.f c
 | .int _,x,c,_,h=>by simp only[Ty.cells,zQT] at h;subst h;rfl
 | .bool,x,c,_,h=>by simp only[Ty.cells,zQT] at h;subst h;rfl
 | .str,x,c,_,h=>by simp only[Ty.cells,zQT] at h;subst h;rfl
 | .raw,x,c,_,h=>by simp only[Ty.cells,zQT] at h;subst h;rfl
 | .nif,x,c,_,h=>by simp only[Ty.cells,zQT] at h;subst h;rfl
 | .list _ _,x,c,_,h=>by simp only[Ty.cells,zQT] at h;subst h;rfl
 | .unit,x,c,_,h=>by cases h
 | .pair a b,x,c,hn,h=>by
   have h:c∈a.cells x.1++b.cells x.2:=h;have hn:(a.nol&&b.nol)=true:=hn;rw[zPK] at hn;rcases zQR.1 h with q | q
   ·exact qAJ a _ _ hn.1 q
   ·exact qAJ b _ _ hn.2 q
omit [Yl] in
theorem q44 {f:TypeId->PV->PV}:∀ {ts:List TypeId} {xs:List PV},(∀ t x,x∈xs->f t x=x)->rtL f ts xs=xs
 | [],xs,_=>by cases xs <;> rfl
 | t::ts,[],_=>rfl
 | t::ts,x::xs,h=>by
   show f t x::rtL f ts xs=_;rw[h t x zPX,q44 fun t y hy=>h t y (zPS _ hy)]
omit [Yl] in
theorem q5S {ty:TypeId}(t:Ty)(x:t.sem)(hn:t.nol=true):rt1 P ty (t.pv x)=t.pv x:=by
 unfold Ty.pv
 cases ht:t.one with
 | true=>exact nS (by rw[ht,hn];rfl)
 | false =>
   show PV.agg (rtL (rtC P) (wB P 8 ty) ((t.cells x).map .f))=_;rw[q44]
   ·rfl
   ·intro ty2 y hy;obtain⟨c,hc,rfl⟩:=zQB.1 hy;unfold rtC;rw[qAJ t x c hn hc];cases Gc.ol ty2 <;> rfl
omit [Yl] in
theorem qV7 {f:TypeId->PV->PV}:∀ {ts:List TypeId} {xs rest:List PV},(∀ t x,x∈xs->f t x=x)->rtL f ts (xs++rest)=xs++rtL f (ts.drop xs.length) rest
 | ts,[],rest,_=>by simp
 | [],x::xs,rest,_=>by simp[rtL]
 | t::ts,x::xs,rest,h=>by
   show f t x::rtL f ts (xs++rest)=_;rw[h t x zPX,qV7 fun t y hy=>h t y (zPS _ hy)];rfl
omit [Yl] in
theorem aA (t:Ty)(hn:t.nol=true){tys zGO:List TypeId}(h:olL tys t=cond t.nol (some (tys.drop t.w)) none)(e:olL tys t=some zGO)(x:t.sem)(rest:List PV):rtL (rtC P) tys ((t.cells x).map .f++rest)=(t.cells x).map .f++rtL (rtC P) zGO rest:=by
 have hd:zGO=tys.drop t.w:=by
  rw[h,hn] at e;cases e;rfl
 rw[qV7,hd,zPR,t.zGG];intro ty2 y hy;obtain⟨c,hc,rfl⟩:=zQB.1 hy;unfold rtC;rw[qAJ t x c hn hc];cases Gc.ol ty2 <;> rfl
omit [Yl] in
theorem qVW:∀ (t:Ty) {tys zGO:List TypeId},olL tys t=some zGO->∀ (x:t.sem) (rest:List PV),rtL (rtC P) tys ((t.cells x).map .f++rest)=(t.cells x).map .f++rtL (rtC P) zGO rest
 | .pair a b,tys,zGO,e,x,rest=>by
   unfold olL at e;split at e
   ·rename_i r hr;show rtL (rtC P) tys ((a.cells x.1++b.cells x.2).map .f++rest)=(a.cells x.1++b.cells x.2).map .f++_;rw[zQX,zQK,qVW a hr,qVW b e,zQK]
   ·cases e
 | .ol el k,tys,zGO,e,x,rest=>by
   cases tys with
   | nil=>cases e
   | cons ty tys =>
     have e:cond (Gc.ol ty) (some tys) none=some zGO:=e
     cases ho:Gc.ol ty with
     | false=>rw[ho] at e;cases e
     | true =>
       rw[ho] at e;cases e;show rtC P ty (.f (fvo el k x))::rtL (rtC P) _ rest=.f (fvo el k x)::_;unfold rtC;rw[ho];rfl
 | .int k,tys,zGO,e,x,rest=>aA (.int k) rfl (by cases tys <;> rfl) e x rest
 | .bool,tys,zGO,e,x,rest=>aA .bool rfl (by cases tys <;> rfl) e x rest
 | .str,tys,zGO,e,x,rest=>aA .str rfl (by cases tys <;> rfl) e x rest
 | .raw,tys,zGO,e,x,rest=>aA .raw rfl (by cases tys <;> rfl) e x rest
 | .nif,tys,zGO,e,x,rest=>aA .nif rfl (by cases tys <;> rfl) e x rest
 | .list el u,tys,zGO,e,x,rest=>aA (.list el u) rfl (by cases tys <;> rfl) e x rest
 | .unit,tys,zGO,e,x,rest=>aA .unit rfl (by cases tys <;> rfl) e x rest
theorem qQX {c:Option TypeId}{ty:TypeId}{t:Ty}{v:SV}{h:SH}{x:t.sem}{h':SH}(ho:OkH P h)(hv:v.ok h)(e:q06 P c ty t v h=some (x,h')) :
 Keep h h'∧OkH P h'∧(∀ ty2,c=some ty2->u7 P ty2 t=true)∧rt1 P ty (t.pv x)=t.pv x∧∀ (Z:Nat->Prop) (H:IH) (m:Nat->Nat) (u:Value),Hp P Z H (own m (qC h.l))->VR P Z H (own m (qC h.l)) v.enc u->∃ Z',Fz P Z H m (qC h.l) Z' (qC h'.l)∧VR P Z' H (fun _=>none) (qIR c t x).enc u:=by
 unfold q06 at e
 cases c with
 | none =>
   obtain⟨y,a1,a2,a3,a4,a5⟩:=qCW ho hv e;refine⟨a3,a4,fun _ h=>by (cases h),a5,fun Z H m u hp hu=>?_⟩;obtain⟨Z',c1,c2⟩:=qKB hp hu a1;refine⟨Z',c1,?_⟩;simp only[qIR,pK];rw[<-a2];exact qFL c2
 | some ty2 =>
   simp only at e
   cases hlp:zC9 t v with
   | some y =>
     rw[hlp] at e;simp only at e;have hv2:=q3P hlp
     cases hcn:(u7 P ty2 t&&(t.nol||(!t.one&&(olL (wB P 8 ty) t).isSome))) with
     | false=>rw[hcn] at e;cases e
     | true =>
       rw[hcn] at e;cases e;obtain⟨hc,hn⟩:u7 P ty2 t=true∧(t.nol||(!t.one&&(olL (wB P 8 ty) t).isSome))=true:=by rwa [zPK] at hcn
       refine⟨.refl _,ho,fun _ h=>by cases h;exact hc,?_,fun Z H m u hp hu=>⟨Z,.refl hp,?_⟩⟩
       ·rcases Bool.or_eq_true_iff.1 hn with q | q
        ·exact q5S t _ q
        ·rw[zPK] at q;obtain⟨zGO,ht⟩:=zQO.1 q.2;have h1:t.one=false:=by simpa using q.1
         unfold Ty.pv;rw[h1];show PV.agg (rtL (rtC P) (wB P 8 ty) ((t.cells _).map .f))=_;have:=qVW (P:=P) t ht x [];rw[zRF] at this;rw[this];cases zGO <;> simp[rtL]
       ·rw[hv2] at hu;simp only[qIR,SV.enc] at hu ⊢
        cases hu with
        | lp a b c d=>exact .lp a b c d
   | none =>
   rw[hlp] at e;simp only at e
   cases hcn:(u7 P ty2 t&&(t.nol||(!t.one&&zAO ty v h))) with
   | false=>rw[hcn] at e;cases e
   | true =>
     rw[hcn] at e;obtain⟨hc,hn⟩:u7 P ty2 t=true∧(t.nol||(!t.one&&zAO ty v h))=true:=by rwa [zPK] at hcn
     have hrt:rt1 P ty (t.pv x)=t.pv x:=by
      rcases Bool.or_eq_true_iff.1 hn with q | q
      ·exact q5S t x q
      ·rw[zPK] at q;exact qXA ho e q.2 (by simpa using q.1)
     obtain⟨a1,a2,a3⟩:=qCH ho e;refine⟨a1,a2,fun _ h=>by cases h;exact hc,hrt,fun Z H m u hp hu=>?_⟩;obtain⟨Z',c1,c2⟩:=a3 Z H m u hp hu;refine⟨Z',c1,?_⟩;simp only[qIR,SV.enc];simpa [q36] using c2
structure zMR (P:Program) (cs:List (Option TypeId)) (tys:List TypeId) (ts:List Ty) (vs:List SV) (h:SH) (x:TyL ts) (h':SH):Prop where
 keep:Keep h h'
 ok:OkH P h'
 fz:∀ (Z:Nat->Prop) (H:IH) (m:Nat->Nat) (us:List Value),Hp P Z H (own m (qC h.l))->VRL P Z H (own m (qC h.l)) (qB vs) us->∃ Z',Fz P Z H m (qC h.l) Z' (qC h'.l)∧VRL P Z' H (fun _=>none) (qB (svM cs ts x)) us
 any:∀ (Z:Nat->Prop) (H:IH) (M M':Nat->Option (Nat×PO)) (us:List Value),VRL P Z H M (qB (svM cs ts x)) us->VRL P Z H M' (qB (svM cs ts x)) us
 rt:rtL (rt1 P) tys (pvL ts x)=pvL ts x
 load:∀ (ph:PHp) (rv:List ResultVar) (env:List PV),rv.map qT0=cs->(rv.map fun r=>(zJ env (qZ1 r)).getD .unk)=qB (svM cs ts x)->qGL P env ph rv=some (pvL ts x)
theorem zBI {c:Option TypeId}{t:Ty}{x:t.sem}(hc:∀ ty2,c=some ty2->u7 P ty2 t=true){ph:PHp}{r:ResultVar}{env:List PV}(h1:qT0 r=c)(h2:(zJ env (qZ1 r)).getD .unk=(qIR c t x).enc):q34 P env ph r=some (t.pv x):=by
 subst h1
 cases r with
 | tmp i =>
   show some ((zJ env i).getD .unk)=_;rw[show (zJ env i).getD .unk=_ from h2];simp[qT0,qIR,pK]
 | cell a ty =>
   show fT P ty ((zJ env a).getD .unk) ph=_;rw[show (zJ env a).getD .unk=_ from h2];have:=qTV (x:=x) (ph:=ph) (hc ty rfl);simpa [qT0,qIR,SV.enc,q36] using this
theorem qUM:∀ {cs:List (Option TypeId)} {tys:List TypeId} {ts:List Ty} {vs:List SV} {h:SH} {x:TyL ts} {h':SH},OkH P h->okL h vs->qJI P cs tys ts vs h=some (x,h')->zMR P cs tys ts vs h x h'
 | [],tys,[],[],h,x,h',ho,hv,e=>by
   unfold qJI at e;cases e;refine⟨.refl _,ho,fun Z H m us hp hu=>⟨Z,.refl hp,?_⟩,fun Z H M M' us hu=>?_,(by cases tys <;> rfl),fun ph rv env h1 h2=>?_⟩
   ·simp only[qB] at hu;rw[hu.zGD];simp only[svM,qB];exact .nil
   ·simp only[svM,qB] at hu ⊢;rw[hu.zGD];exact .nil
   ·cases rv with
    | nil=>rfl
    | cons _ _=>cases h1
 | c::cs,ty::tys,[t],v::vs,h,x,h',ho,hv,e=>by
   unfold qJI at e;split at e
   case h_2=>cases e
   simp only[okL] at hv;obtain⟨a1,a2,a3,ar,a4⟩:=qQX ho hv.1 e;refine⟨a1,a2,fun Z H m us hp hu=>?_,fun Z H M M' us hu=>?_,?_,fun ph rv env h1 h2=>?_⟩
   ·simp only[qB] at hu;obtain⟨u,us',rfl,b1,b2⟩:=hu.zF9;obtain⟨Z',c1,c2⟩:=a4 Z H m u hp b1;rw[b2.zGD];simp only[svM,qB];exact⟨Z',c1,.cons c2 .nil⟩
   ·simp only[svM,qB] at hu ⊢;obtain⟨u,us',rfl,b1,b2⟩:=hu.zF9;rw[b2.zGD];exact .cons (qQM c t x _ _ _ _ _ b1) .nil
   ·show rt1 P ty (t.pv x)::rtL (rt1 P) tys []=[t.pv x];rw[ar];cases tys <;> rfl
   ·match rv,h1,h2 with
    | [r],h1,h2 =>
      simp only[zP3,zRS,zQA,and_true] at h1;simp only[zP3,zRS,svM,qB,zQA,and_true] at h2;unfold qGL;rw[zBI a3 h1 h2];rfl
 | c::cs,ty::tys,t::u::ts,v::vs,h,x,h',ho,hv,e=>by
   unfold qJI at e;simp only[okL] at hv;split at e
   case h_2=>cases e
   rename_i x1 h1 hd;split at e
   case h_2=>cases e
   rename_i y h2 hd2;cases e;obtain⟨a1,a2,a3,ar,a4⟩:=qQX ho hv.1 hd;have ih:=qUM a2 (qJ a1 hv.2) hd2;have hsv:svM (c::cs) (t::u::ts) (x1,y)=qIR c t x1::svM cs (u::ts) y:=rfl;refine⟨a1.trans ih.keep,ih.ok,fun Z H m us hp hu=>?_,fun Z H M M' us hu=>?_,?_,fun ph rv env g1 g2=>?_⟩
   ·simp only[qB] at hu;obtain⟨w,us',rfl,b1,b2⟩:=hu.zF9;obtain⟨Z1,d1,d2⟩:=a4 Z H m w hp b1;obtain⟨Z2,f1,f2⟩:=ih.fz Z1 H m us' d1.hp (d1.vrl b2);rw[hsv];simp only[qB];exact⟨Z2,d1.trans f1,.cons (d2.mono (p:=fun _=>false) f1.zle (zPM _) (fun _ _ _=>rfl) (.refl _ _) fun j hj=>by cases hj) f2⟩
   ·rw[hsv] at hu ⊢;simp only[qB] at hu ⊢;obtain⟨w,us',rfl,b1,b2⟩:=hu.zF9;exact .cons (qQM c t x1 _ _ _ _ _ b1) (ih.any _ _ _ _ _ b2)
   ·show rt1 P ty (t.pv x1)::rtL (rt1 P) tys (pvL (u::ts) y)=t.pv x1::pvL (u::ts) y;rw[ar,ih.rt]
   ·cases rv with
    | nil=>cases g1
    | cons r rv =>
      rw[hsv] at g2;simp only[zP3,zQA] at g1;simp only[zP3,qB,zQA] at g2;unfold qGL;rw[zBI a3 g1.1 g2.1,ih.load ph rv env g1.2 g2.2];rfl
 | [],_,[],_::_,_,_,_,_,_,e=>by unfold qJI at e;cases e
 | [],[],[_],_,_,_,_,_,_,e=>by unfold qJI at e;cases e
 | [],[],_::_::_,_,_,_,_,_,_,e=>by unfold qJI at e;cases e
 | [],_::_,[_],_,_,_,_,_,_,e=>by unfold qJI at e;cases e
 | [],_::_,_::_::_,_,_,_,_,_,_,e=>by unfold qJI at e;cases e
 | _::_,[],[],_,_,_,_,_,_,e=>by unfold qJI at e;cases e
 | _::_,_::_,[],_,_,_,_,_,_,e=>by unfold qJI at e;cases e
 | _::_,[],[_],_,_,_,_,_,_,e=>by unfold qJI at e;cases e
 | _::_,[],_::_::_,_,_,_,_,_,_,e=>by unfold qJI at e;cases e
 | _::_,_::_,[_],[],_,_,_,_,_,e=>by unfold qJI at e;cases e
 | _::_,_::_,_::_::_,[],_,_,_,_,_,e=>by unfold qJI at e;cases e
def rdR (P:Program)(hb:SH)(zII:List TypeId)(rs:List Ty)(rv:List ResultVar)(env:List SV)(h:SH):Option (TyL rs):=match qH6 (rv.map qZ1) env with
 | some vs=>(match qJI P (rv.map qT0) zII rs vs h with
   | some p=>cond (mG [] hb p.2) (some p.1) none
   | none=>none)
 | none=>none
def enR (N:Nat)(rv:List ResultVar)(rs:List Ty)(v:TyL rs):List SV:=(cO (rv.map qZ1) (svM (rv.map qT0) rs v) (List.replicate N .unk)).1
omit [Yl] in
theorem qEM (h:SH):∀ (n:Nat),okL h (List.replicate n .unk)
 | 0=>by simp[okL]
 | n+1=>by rw[zRG];simp only[okL];exact⟨by simp[SV.ok],qEM h n⟩
theorem sQ:∀ (n:Nat),qB (List.replicate n .unk)=List.replicate n .unk
 | 0=>by simp[qB]
 | n+1=>by rw[zRG,zRG];simp only[qB,sQ n,SV.enc]
theorem qQ8 {Z:Nat->Prop}{H:IH}{M:Nat->Option (Nat×PO)}{vals:List Value}:∀ {rl:List Nat} {l base:List SV} {ws:List Value},(∀ (j i:Nat),rl[j]?=some i->vals[i]?=ws[j]?)->VRL P Z H M (qB l) ws->VRL P Z H M (qB base) vals->VRL P Z H M (qB (cO rl l base).1) vals
 | [],l,base,ws,_,_,hb=>hb
 | i::is,[],base,ws,_,_,hb=>hb
 | i::is,c::l,base,ws,hc,hl,hb=>by
   simp only[qB] at hl;obtain⟨w,ws',rfl,h1,h2⟩:=hl.zF9;show VRL P Z H M (qB (cO is l (yS base i c)).1) vals;refine qQ8 (ws:=ws') (fun j k hj=>by simpa using hc (j+1) k (by simpa using hj)) h2 ?_;rw[kH];exact hb.slot (v:=w) (by simpa using hc 0 i rfl) h1
theorem qPI {Z:Nat->Prop}{H:IH}{M:Nat->Option (Nat×PO)}{env:List SV}{vals:List Value}(hv:VRL P Z H M (qB env) vals):∀ {rl:List Nat} {vs:List SV},qH6 rl env=some vs->∃ ws,VRL P Z H M (qB vs) ws∧∀ (j i:Nat),rl[j]?=some i->vals[i]?=ws[j]?
 | [],vs,e=>by cases e;exact⟨[],by simp only[qB];exact .nil,fun j i h=>by simp at h⟩
 | i::is,vs,e=>by
   unfold qH6 at e;split at e
   ·rename_i v l hx hl;cases e;obtain⟨ws,h1,h2⟩:=qPI hv hl;have hx2:(qB env)[i]?=some v.enc:=by rw[<-qF,qX,hx];rfl
    obtain⟨w,hw,hr⟩:=hv.get hx2;refine⟨w::ws,by simp only[qB];exact .cons hr h1,fun j k hj=>?_⟩
    cases j with
    | zero=>simp at hj;subst hj;simpa using hw
    | succ j=>simpa using h2 j k (by simpa using hj)
   ·cases e
omit [Yl] in
theorem q8Z {Z:Nat->Prop}{H:IH}{M:Nat->Option (Nat×PO)}{vals:List Value}:VRL P Z H M (List.replicate vals.length .unk) vals:=⟨by simp,fun i z v h1 h2=>by
 rw[zR6] at h1;split at h1
 ·cases h1;exact .unk
 ·cases h1⟩
omit [Yl] in
theorem qF5 {env:List SV}:∀ {rl:List Nat} {vs:List SV},qH6 rl env=some vs->∀ z∈vs,z∈env
 | [],vs,e,z,hz=>by cases e;cases hz
 | i::is,vs,e,z,hz=>by
   unfold qH6 at e;split at e
   ·rename_i v l hx hl;cases e;rcases zP6.1 hz with q | q
    ·subst q;rw[qF] at hx;exact zQQ hx
    ·exact qF5 hl z q
   ·cases e
theorem qO6 {hb:SH}{zII:List TypeId}{rs:List Ty}{rv:List ResultVar}{env:List SV}{h:SH}{v:TyL rs}(ho:OkH P h)(he:okL h env)(e:rdR P hb zII rs rv env h=some v) :
 ∃ vs h',qH6 (rv.map qZ1) env=some vs∧zMR P (rv.map qT0) zII rs vs h v h'∧mG [] hb h'=true:=by
 unfold rdR at e;split at e
 case h_2=>cases e
 rename_i vs hvs;split at e
 case h_2=>cases e
 rename_i p hp;obtain⟨x,h'⟩:=p
 cases hc:mG [] hb h' with
 | false=>rw[hc] at e;cases e
 | true =>
   rw[hc] at e;cases e;exact⟨vs,h',hvs,qUM ho (zL.2 fun z hz=>zL.1 he z (qF5 hvs z hz)) hp,hc⟩
theorem qP2 {hb:SH}(hob:OkH P hb){zII:List TypeId}{rs:List Ty}{rv:List ResultVar}:zJC P nm N hb (rdR P hb zII rs rv) (enR N rv rs):=by
 refine⟨hob,fun env h v ho he hl hbh e=>?_,fun env h v ho he hbh e k o hk=>?_,fun v=>by unfold enR;rw[qGV,zR0],fun v h=>qM0 (qWW _ rs v) (qEM h N)⟩
 ·obtain⟨vs,h',hvs,hd,hkp⟩:=qO6 ho he e;intro Z H m vals hh hv;obtain⟨ws,h1,h2⟩:=qPI hv hvs;obtain⟨Z',c1,r2⟩:=hd.fz Z H m ws hh h1;have hdr:=Fz.drop c1.hp (ph':=qC hb.l) (qC3 fun k o hk=>nZ hob (hbh.trans hd.keep) hkp (by simp) hk);have hlen:vals.length=N:=by rw[<-hv.len,qQ,hl]
  refine⟨Z',m,hdr.hp,?_,c1.step.trans hdr.step,(c1.kr _).trans (hdr.kr _)⟩;unfold enR;refine qQ8 h2 (hd.any _ _ _ _ _ r2) ?_;rw[sQ,<-hlen];exact q8Z
 ·obtain⟨vs,h',hvs,hd,hkp⟩:=qO6 ho he e;have:=qRY hob (hbh.trans hd.keep) hkp (by simp) hk;exact hd.keep.same k o this (zPP (hob.ver k o hk) hbh.next)
omit [Yl] in
theorem zAY (t:Ty)(x:t.sem)(ph:PHp):fzP P ph (t.pv x)=some (t.pv x,ph):=by
 unfold Ty.pv
 cases t.one with
 | true=>rfl
 | false=>simp only[cond_false,fzP,qAH]
omit [Yl] in
theorem q5F {ph:PHp}:∀ {xs:List PV},(∀ y∈xs,fzP P ph y=some (y,ph))->fzA P xs ph=some (xs,ph)
 | [],_=>rfl
 | x::xs,h=>by
   simp only[fzA,h x zPX,q5F fun y hy=>h y (zPS _ hy)]
omit [Yl] in
theorem q57 (rs:List Ty)(x:TyL rs)(ph:PHp):fzR P ph (jO rs x)=some (jO rs x):=by
 have hm:∀ y∈pvL rs x,∃ (t:Ty) (z:t.sem),y=t.pv z:=fun y hy=>qBB hy
 unfold jO;generalize pvL rs x=l at hm
 have hz:∀ y∈l,fzP P ph y=some (y,ph):=fun y hy=>by
  obtain⟨t,z,rfl⟩:=hm y hy;exact zAY t z ph
 match l,hm,hz with
 | [],_,hz=>rfl
 | [v],hm,hz =>
   obtain⟨t,z,rfl⟩:=hm v zPX;have:=hz _ zPX;show fzR P ph (t.pv z)=some (t.pv z);unfold fzR;unfold Ty.pv at this ⊢
   cases ht:t.one with
   | true=>rw[ht] at this;simp only[cond_true] at this ⊢;rw[this]
   | false=>rw[ht] at this;simp only[cond_false] at this ⊢;rw[this]
 | a::b::l,_,hz =>
   show (match fzA P (a::b::l) ph with
    | some (ys,_)=>some (PV.tup ys)
    | none=>none)=_
   rw[q5F hz];rfl
omit [Yl] in
theorem qOO (rs:List Ty)(x:TyL rs):q5X (jO rs x)=true:=by
 have hm:∀ y∈pvL rs x,qLI y=true:=fun y hy=>by
  obtain⟨t,z,rfl⟩:=qBB hy;exact qXC t z
 have hm2:∀ y∈pvL rs x,∃ (t:Ty) (z:t.sem),y=t.pv z:=fun y hy=>qBB hy
 unfold jO;generalize pvL rs x=l at hm hm2
 match l,hm,hm2 with
 | [],_,_=>rfl
 | [v],hm,hm2 =>
   have h1:=hm v zPX;obtain⟨t,z,rfl⟩:=hm2 v zPX;show q5X (t.pv z)=true;unfold Ty.pv at h1 ⊢
   cases ht:t.one with
   | true=>rfl
   | false=>rw[ht] at h1;exact h1
 | a::b::l,hm,_=>exact zPN.2 hm
def qP1:List Nat->Bool
 | []=>true
 | i::l=>!nP i l&&qP1 l
omit [Yl] in
theorem qR2:∀ {rl:List Nat} {l base:List SV},qP1 rl=true->rl.length=l.length->(∀ i∈rl,i < base.length)->∀ (j i:Nat),rl[j]?=some i->zJ (cO rl l base).1 i=l[j]?
 | [],l,base,_,_,_,j,i,h=>by simp at h
 | k::is,[],base,_,hl,_,j,i,h=>by simp at hl
 | k::is,c::l,base,hn,hl,hb,j,i,h=>by
   unfold qP1 at hn;rw[zPK] at hn
   have hk:k ∉ is:=fun hm=>by
    have:=xM.2 hm;rw[this] at hn;exact absurd hn.1 (by simp)
   show zJ (cO is l (yS base k c)).1 i=_
   cases j with
   | zero =>
     simp at h;subst h;rw[qGF hk,qW,qF,zQG,if_pos rfl,if_pos (hb k zPX)];rfl
   | succ j =>
     have h2:is[j]?=some i:=by simpa using h
     rw[qR2 (rl:=is) (l:=l) hn.2 (by simpa using hl) (fun i hi=>by rw[j6];exact hb i (zPS _ hi)) j i h2];rfl
def zFL {rs:List Ty}(rdv:List SV->SH->Option (TyL rs)):vR none (TyL rs):=fun e _ env h=>match e with
 | .normal=>rdv env h
 | .ret=>rdv env h
 | _=>none
def nm0:Nm:=⟨0,fun _=>true⟩
def fnS (P:Program)(G:Nat->Bool)(T:zT)(IT:List (FuncId×zGS))(CI:CIT)(an:An)(as rs:List Ty)(fn:Func)(x:TyL as):Option (TyL rs):=match fn.body with
 | some c=>(ev (Γ:=none) P G T IT CI yi0 an (rdR P ⟨0,[]⟩ fn.resultTypes.toList rs fn.results.toList) (enR fn.ntmps fn.results.toList rs) ⟨0,[]⟩ c false nm0 () (svL as x++List.replicate (fn.ntmps - as.length) .unk) ⟨0,[]⟩ (zFL (rdR P ⟨0,[]⟩ fn.resultTypes.toList rs fn.results.toList))).run
 | none=>none
def qTX (as rs:List Ty)(fn:Func):Bool:=match fn.body with
 | some _=>qP1 (fn.results.toList.map qZ1)&&(Nat.beq fn.results.toList.length rs.length&&(Nat.ble as.length fn.ntmps&&(fn.results.toList.map qZ1).all fun i=>Nat.blt i fn.ntmps))
 | none=>false
omit [Yl] in
theorem Runs.zMS {rd:Bool}{c:Code}{env:List PV}{ph:PHp}{Q:PQ}(h:Runs P G rd nm c env ph fun e pe p=>∃ pe' p',Wk P nm pe p pe' p'∧Q e pe' p'):Runs P G rd nm c env ph Q:=by
 intro Z H m zF7 hp hb he;refine (h Z H m zF7 hp hb he).mono ?_;rintro o ⟨Z',m',env',ph',a,b,c,d,pe',p',hw,e⟩;obtain⟨Z1,m1,a1,a2,a3,a4⟩:=hw Z' o.H m' o.env a b;exact⟨Z1,m1,pe',p',a1,a2,c.trans a3,d.trans a4,e⟩
theorem zDM:YOk P G (Γ:=GV none) zBH yi0:=fun g y g' b h=>by cases h
theorem zBE [zGT P G]{nat:xI}{T:zT}{IT:List (FuncId×zGS)}{CI:CIT}{an:An}{as rs:List Ty}{g:FuncId}{fn:Func}(s:zG4 P good nat G tab)(ht:qRS tab T)(hit:q41 P G IT)(hci:qUY P G CI)(hfn:P.funcs[g]?=some fn)(hc:qTX as rs fn=true) :
 zFH P G g nm0 (enL as) (fnS P G T IT CI an as rs fn) (jO rs):=by
 unfold qTX at hc;split at hc
 case h_2=>cases hc
 rename_i c hbody;simp only[zPK] at hc;obtain⟨c1,c2,c3,c4⟩:=hc;refine⟨fn,c,hfn,hbody,fun x y hF=>⟨fn.ntmps,rfl,?_⟩⟩;unfold fnS at hF;rw[hbody] at hF;have hF:(ev (Γ:=none) P G T IT CI yi0 an (rdR P ⟨0,[]⟩ fn.resultTypes.toList rs fn.results.toList) (enR fn.ntmps fn.results.toList rs) ⟨0,[]⟩ c false nm0 () (svL as x++List.replicate (fn.ntmps - as.length) .unk) ⟨0,[]⟩ (zFL (rdR P ⟨0,[]⟩ fn.resultTypes.toList rs fn.results.toList))).run=some y:=hF;have hal:as.length<=fn.ntmps:=zPU c3
 have hlen:(svL as x++List.replicate (fn.ntmps - as.length) SV.unk).length=fn.ntmps:=by
  rw[zP9,qHU,zR0];omega
 have hrd:∀ nm,zJC P nm fn.ntmps ⟨0,[]⟩ (rdR P ⟨0,[]⟩ fn.resultTypes.toList rs fn.results.toList) (enR fn.ntmps fn.results.toList rs):=fun nm=>qP2 tC
 have zGF:(enL as).p x++List.replicate (fn.ntmps - ((enL as).p x).length) PV.unk=qB (svL as x++List.replicate (fn.ntmps - as.length) .unk):=by
  have:(enL as).p x=qB (svL as x):=(qBK as x).symm;rw[d9,sQ,this,qQ,qHU]
 rw[zGF];have hrun:=qR.runs (q3E (Γ:=none) (wd:=zBH) s ht hit hci zDM hrd c tC (gY (qC4 as x) (qEM _ _)) hlen (.refl _) hF);refine Runs.zMS (hrun.mono ?_);rintro e pe ph ⟨env',h',rfl,rfl,k1,k2,k3,k0,k4,k5⟩
 obtain⟨he,hr⟩:(e=.normal∨e=.ret)∧rdR P ⟨0,[]⟩ fn.resultTypes.toList rs fn.results.toList env' h'=some y:=by
  cases e with
  | normal=>exact⟨.inl rfl,k5⟩
  | ret=>exact⟨.inr rfl,k5⟩
  | exit _=>cases k5
  | goto _=>cases k5
 obtain⟨_,_,_,hd,_⟩:=qO6 k2 k1 hr;refine⟨_,_,(hrd nm0).wk _ _ _ k2 k1 k3 k0 hr,he,jO rs y,?_,q57 rs y _⟩;unfold wL;have hll:(fn.results.toList.map qZ1).length=(svM (fn.results.toList.map qT0) rs y).length:=by rw[qOL,zPR];exact zPL c2
 have hl2:(fn.results.toList.map fun r=>(zJ (qB (enR fn.ntmps fn.results.toList rs y)) (qZ1 r)).getD PV.unk)=qB (svM (fn.results.toList.map qT0) rs y):=by
  apply zQ1;intro j;rw[zP0,zH (svM _ rs y),zP0]
  cases hj:fn.results.toList[j]? with
  | none =>
    have:(svM (fn.results.toList.map qT0) rs y)[j]?=none:=by
     rw[zSH] at hj ⊢;rw[zPR] at hll;omega
    rw[this];rfl
  | some rr =>
    have hg:=qR2 (l:=svM (fn.results.toList.map qT0) rs y) (base:=List.replicate fn.ntmps .unk) c1 hll (fun i hi=>by
     have:=zPN.1 c4 i hi;rw[zR0]
     exact zPU this) j (qZ1 rr) (by rw[zP0,hj];rfl)
    simp only[zPZ];rw[qX];unfold enR;rw[hg]
    have hlt:j < (svM (fn.results.toList.map qT0) rs y).length:=by
     rw[<-hll,zPR];exact (zPQ.1 hj).1
    rw[zPO hlt];rfl
 rw[hd.load _ fn.results.toList _ rfl hl2];show some (qDR (rtL (rt1 P) fn.resultTypes.toList (pvL rs y)))=some (jO rs y);rw[hd.rt];rfl
end
end Go.Sv
namespace Go.Sv
open Go.Idl
variable {P:Program}
def zE3 (s:ByteArray)(c:Int):Int:=s.foldl (fun n x=>if x==c.toNat.toUInt8 then n+1 else n) ((0:Nat):Int)
def zD8 (s:ByteArray)(c:Int):Int:=match (List.range s.size).find? (fun i=>s[i]! == c.toNat.toUInt8) with
 | some i=>(i:Int)
 | none=>-1
def q4A (x y c:Int):Int:=Int.ofNat ((x.toNat+y.toNat+c.toNat) % 18446744073709551616)
def q4N (x y c:Int):Int:=Int.ofNat ((x.toNat+y.toNat+c.toNat) / 18446744073709551616)
def qZL (x y c:Int):Int:=Int.ofNat ((x.toNat+18446744073709551616 - y.toNat - c.toNat) % 18446744073709551616)
def qXH (x y c:Int):Int:=Int.ofNat (cond (Nat.blt x.toNat (y.toNat+c.toNat)) 1 0)
def zFD (fn:Func):Nat:=cond (fn.body.isNone&&fn.origin == "") (cond (fn.name == "internal/bytealg.CountString") 1 (cond (fn.name == "internal/bytealg.IndexByteString") 2 (cond (fn.name == "math/bits.Add64") 3 (cond (fn.name == "math/bits.Sub64") 4 0)))) 0
def q54 (P:Program)(g:FuncId):Nat:=match P.funcs[g]? with
 | some fn=>zFD fn
 | none=>0
theorem qH4 {P:Program}{g:FuncId}{n:Nat}(h:q54 P g=n+1):∃ fn,P.funcs[g]?=some fn∧fn.body=none∧fn.origin = "" ∧ qMK P g=true∧((n=0∧fn.name = "internal/bytealg.CountString")∨(n=1∧fn.name = "internal/bytealg.IndexByteString")∨(n=2∧fn.name = "math/bits.Add64")∨(n=3∧fn.name = "math/bits.Sub64")):=by
 unfold q54 at h;split at h
 case h_2=>cases h
 rename_i fn hfn;unfold zFD at h
 cases hc:(fn.body.isNone&&fn.origin == "") with
 | false=>rw[hc] at h;cases h
 | true =>
   rw[hc] at h;simp only[cond_true] at h;rw[zPK] at hc
   have ho:fn.origin = "" := by simpa using hc.2
   have hb:fn.body=none:=by simpa using hc.1
   have hx:∀ s,fn.name=s->(s == "internal/abi.NoEscape")=false->qMK P g=true:=fun s hs h0=>by
    unfold qMK;rw[hfn];simp only;rw[hc.1,hs,h0];rfl
   refine⟨fn,hfn,hb,ho,?_⟩
   cases h1:(fn.name == "internal/bytealg.CountString") with
   | true =>
     rw[h1] at h
     have h1:fn.name = "internal/bytealg.CountString" := by simpa using h1
     have h:1=n+1:=h;exact⟨hx _ h1 (by decide),.inl ⟨by omega,h1⟩⟩
   | false =>
     rw[h1] at h
     cases h2:(fn.name == "internal/bytealg.IndexByteString") with
     | true =>
       rw[h2] at h
       have h2:fn.name = "internal/bytealg.IndexByteString" := by simpa using h2
       have h:2=n+1:=h;exact⟨hx _ h2 (by decide),.inr (.inl ⟨by omega,h2⟩)⟩
     | false =>
       rw[h2] at h
       cases h3:(fn.name == "math/bits.Add64") with
       | true =>
         rw[h3] at h
         have h3:fn.name = "math/bits.Add64" := by simpa using h3
         have h:3=n+1:=h;exact⟨hx _ h3 (by decide),.inr (.inr (.inl ⟨by omega,h3⟩))⟩
       | false =>
         rw[h3] at h
         cases h4:(fn.name == "math/bits.Sub64") with
         | true =>
           rw[h4] at h
           have h4:fn.name = "math/bits.Sub64" := by simpa using h4
           have h:4=n+1:=h;exact⟨hx _ h4 (by decide),.inr (.inr (.inr ⟨by omega,h4⟩))⟩
         | false=>rw[h4] at h;cases h
theorem dX {α β:Type}(s:Sem α)(g:α->Sem β):yZ P (s >>= g)=(yZ P s).bind fun a=>yZ P (g a):=jG g s
theorem zD1:yZ P program=some P:=rfl
theorem zD2 {q:Mark}:yZ P (mark q)=some ():=rfl
theorem qAW {g:FuncId}{fn:Func}{e:Array Value->Sem Value}{vs:Array Value}{v:Value}(hfn:P.funcs[g]?=some fn)(hb:fn.body=none)(hn:(fn.name == "runtime.NumGoroutine")=false)(h1:Extern.findNext fn=none)(h2:Extern.find fn=some e)(h3:yZ P (e vs)=some v) :
 yZ P (callFunc g vs)=some (.value v):=by
 unfold callFunc;rw[dX,zD1,zP8,hfn];simp only[hn,zRK,if_false,hb,Option.isNone_none,if_true,h1,h2];rw[dX,zD2,zP8];show yZ P (do pure (Next.value (<- e vs)))=_;rw[dX,h3];rfl
theorem qTQ {fn:Func}(h:fn.name = "internal/bytealg.CountString")(ho:fn.origin = ""):Extern.findNext fn=none∧Extern.find fn=some Extern.BytealgCount.count:=by
 unfold Extern.findNext Extern.find;simp only[h,ho];exact⟨by kernel_rfl,by kernel_rfl⟩
theorem find_index {fn:Func}(h:fn.name = "internal/bytealg.IndexByteString")(ho:fn.origin = ""):Extern.findNext fn=none∧Extern.find fn=some Extern.BytealgIndexByte.indexByte:=by
 unfold Extern.findNext Extern.find;simp only[h,ho];exact⟨by kernel_rfl,by kernel_rfl⟩
theorem qUV {g:FuncId}{s:ByteArray}{c:Int}(h:q54 P g=1):qMK P g=true∧yZ P (callFunc g #[.string s,.int .u8 c])=some (.value (.int .i64 (zE3 s c))):=by
 obtain⟨fn,h1,h2,h3,h4,h5⟩:=qH4 (n:=0) h
 rcases h5 with ⟨_,h5⟩ | ⟨h6,_⟩ | ⟨h6,_⟩ | ⟨h6,_⟩
 ·obtain⟨a,b⟩:=qTQ h5 h3;refine⟨h4,qAW h1 h2 (by rw[h5];decide) a b ?_⟩;show yZ P (do let b <- Extern.Bytes.bytesOf (.string s);let c <- Extern.Bytes.asByte (.int .u8 c);pure (goInt (b.foldl (fun n x=>if x==c then n+1 else n) (0:Nat))))=_;rw[dX,show yZ P (Extern.Bytes.bytesOf (.string s))=some s from rfl,zP8,dX,show yZ P (Extern.Bytes.asByte (.int .u8 c))=some c.toNat.toUInt8 from rfl,zP8];rfl
 all_goals cases h6
theorem qXP {g:FuncId}{s:ByteArray}{c:Int}(h:q54 P g=2):qMK P g=true∧yZ P (callFunc g #[.string s,.int .u8 c])=some (.value (.int .i64 (zD8 s c))):=by
 obtain⟨fn,h1,h2,h3,h4,h5⟩:=qH4 (n:=1) h
 rcases h5 with ⟨h6,_⟩ | ⟨_,h5⟩ | ⟨h6,_⟩ | ⟨h6,_⟩
 ·cases h6
 rotate_left
 ·cases h6
 ·cases h6
 ·obtain⟨a,b⟩:=find_index h5 h3;refine⟨h4,qAW h1 h2 (by rw[h5];decide) a b ?_⟩
  show yZ P (match (List.range s.size).find? (fun i=>s[i]! == c.toNat.toUInt8) with
   | some i=>pure (goInt i)
   | none=>pure (goInt (-1)))=_
  unfold zD8;cases (List.range s.size).find? (fun i=>s[i]! == c.toNat.toUInt8) <;> rfl
def zE4:Array Value->Sem Value:=fun args=>do
 let (x,y,c) <- Extern.MathBitsCarry.three "Add64" args
 pure (Extern.MathBitsCarry.pair ((x+y+c) % Extern.MathBitsCarry.m64) ((x+y+c) / Extern.MathBitsCarry.m64))
def zFJ:Array Value->Sem Value:=fun args=>do
 let (x,y,b) <- Extern.MathBitsCarry.three "Sub64" args
 pure (Extern.MathBitsCarry.pair ((x+Extern.MathBitsCarry.m64 - y - b) % Extern.MathBitsCarry.m64) (if x < y+b then 1 else 0))
theorem q0U {fn:Func}(h:fn.name = "math/bits.Add64")(ho:fn.origin = ""):Extern.findNext fn=none∧Extern.find fn=some zE4:=by
 unfold Extern.findNext Extern.find;simp only[h,ho];exact⟨by kernel_rfl,by kernel_rfl⟩
theorem q35 {fn:Func}(h:fn.name = "math/bits.Sub64")(ho:fn.origin = ""):Extern.findNext fn=none∧Extern.find fn=some zFJ:=by
 unfold Extern.findNext Extern.find;simp only[h,ho];exact⟨by kernel_rfl,by kernel_rfl⟩
theorem qRU {n:String}{x y:Int}:∀ {c:Int},Nat.ble c.toNat 1=true->yZ P (Extern.MathBitsCarry.three n #[.int .u64 x,.int .u64 y,.int .u64 c])=some (x.toNat,y.toNat,c.toNat)
 | .ofNat 0,_=>rfl
 | .ofNat 1,_=>rfl
 | .ofNat (n+2),h=>by
   have:=zPU h;simp at this;omega
 | .negSucc m,_=>rfl
theorem q8J {g:FuncId}{x y c:Int}(h:q54 P g=3)(hc:Nat.ble c.toNat 1=true):qMK P g=true∧yZ P (callFunc g #[.int .u64 x,.int .u64 y,.int .u64 c])=some (.value (.tuple #[.int .u64 (q4A x y c),.int .u64 (q4N x y c)])):=by
 obtain⟨fn,h1,h2,h3,h4,h5⟩:=qH4 (n:=2) h
 rcases h5 with ⟨h6,_⟩ | ⟨h6,_⟩ | ⟨_,h5⟩ | ⟨h6,_⟩
 ·cases h6
 ·cases h6
 ·obtain⟨a,b⟩:=q0U h5 h3;refine⟨h4,qAW h1 h2 (by rw[h5];decide) a b ?_⟩;unfold zE4;rw[dX,qRU hc];rfl
 ·cases h6
theorem q7P {g:FuncId}{x y c:Int}(h:q54 P g=4)(hc:Nat.ble c.toNat 1=true):qMK P g=true∧yZ P (callFunc g #[.int .u64 x,.int .u64 y,.int .u64 c])=some (.value (.tuple #[.int .u64 (qZL x y c),.int .u64 (qXH x y c)])):=by
 obtain⟨fn,h1,h2,h3,h4,h5⟩:=qH4 (n:=3) h
 rcases h5 with ⟨h6,_⟩ | ⟨h6,_⟩ | ⟨h6,_⟩ | ⟨_,h5⟩
 ·cases h6
 ·cases h6
 ·cases h6
 ·obtain⟨a,b⟩:=q35 h5 h3;refine⟨h4,qAW h1 h2 (by rw[h5];decide) a b ?_⟩;unfold zFJ;rw[dX,qRU hc];simp only[zP8];show some (Extern.MathBitsCarry.pair ((x.toNat+18446744073709551616 - y.toNat - c.toNat) % 18446744073709551616) (if x.toNat < y.toNat+c.toNat then 1 else 0))=_;unfold qZL qXH Extern.MathBitsCarry.pair;by_cases hlt:x.toNat < y.toNat+c.toNat
  ·rw[if_pos hlt,show Nat.blt x.toNat (y.toNat+c.toNat)=true from zPY hlt];rfl
  ·rw[if_neg hlt,show Nat.blt x.toNat (y.toNat+c.toNat)=false from zTH.2 fun h=>hlt (zPU h)];rfl
noncomputable section
variable [Gc]
class Hnd where
 ci:CIT
class zG1 (P:Program) (G:Nat->Bool) [Hnd]:Prop where
 ok:∀ [Yl],qUY P G Hnd.ci
instance (priority:=low) zLQ:Hnd:=⟨fun _ _ _ _ _ _=>.fail⟩
instance (priority:=low) hndOk0 {G:Nat->Bool}:@zG1 _ P G zLQ:=by
 letI:Hnd:=zLQ
 refine⟨fun {_}=>?_⟩;intro R nm f as h K r ho ha e;cases e
variable [Yl]{R:Type}{r:R}{G:Nat->Bool}
def zDB (P:Program)(f:FuncId)(as:List SV)(h:SH)(K:SV->SH->zF6 R)(F:zF6 R):zF6 R:=match q54 P f,as with
 | 1,[x,y]=>(match asS x,asI y with
   | some s,some (.u8,c)=>K (.d (.int .i64) (zE3 s c)) h
   | _,_=>.fail)
 | 2,[x,y]=>(match asS x,asI y with
   | some s,some (.u8,c)=>K (.d (.int .i64) (zD8 s c)) h
   | _,_=>.fail)
 | 3,[x,y,z]=>(match asI x,asI y,asI z with
   | some (.u64,a),some (.u64,b),some (.u64,c)=>.ite (Nat.ble c.toNat 1) (K (.tup [.d (.int .u64) (q4A a b c),.d (.int .u64) (q4N a b c)]) h) .fail
   | _,_,_=>.fail)
 | 4,[x,y,z]=>(match asI x,asI y,asI z with
   | some (.u64,a),some (.u64,b),some (.u64,c)=>.ite (Nat.ble c.toNat 1) (K (.tup [.d (.int .u64) (qZL a b c),.d (.int .u64) (qXH a b c)]) h) .fail
   | _,_,_=>.fail)
 | _,_=>F
end
end Go.Sv
namespace Go.Sv
open Go.Idl
noncomputable section
variable [Gc]
variable [Frs]
variable [Yl]
variable {P:Program}{G:Nat->Bool}{nm:Nm}{tab:uU}{nat:xI}{good:FuncId->Bool}{T:zT}{IT:List (FuncId×zGS)}
omit [Yl] in
theorem q3L {g:FuncId}{fn:Func}{c:Code}{N:Nat}{args:List PV}{ph:PHp}{R:PV->PHp->Prop}(hent:enters P g=true)(hfn:P.funcs[g]?=some fn)(hb:fn.body=some c)(hN:fn.ntmps=N)
 (h:Runs P G false nm c (args++List.replicate (N - args.length) .unk) ph fun e pe p=>(e=.normal∨e=.ret)∧∃ v,wL P fn pe p=some v∧R v p) :
 qD0 P G nm g args ph R:=by
 refine .inr ⟨hent,fun Z H m zGK hp hbs hv=>?_⟩;refine gF.of hfn hb hN ?_
 have zGF:VRL P Z H (own m ph) (args++List.replicate (N - args.length) .unk) (zGK++List.replicate (N - zGK.length) undef):=by
  rw[hv.len];refine VRL.append hv ⟨by simp,fun i z v h1 h2=>?_⟩;rw[zR6] at h1;split at h1
  ·cases h1;exact .unk
  ·cases h1
 refine (h Z H m _ hp hbs zGF).mono ?_;rintro o ⟨Z',m',env',ph',a1,b1,c1,d1,he,v,hr,hR⟩;refine⟨he,?_⟩;obtain⟨u,v1,v2⟩:=nK a1 b1 hr;exact⟨u,v1,Z',m',v,ph',a1,v2,c1,d1,hR⟩
def rtS (P:Program)(ty:TypeId):SV->Option SV
 | .d t x=>cond (t.one&&t.nol) (some (.d t x)) none
 | .c (.slice none 0 0)=>match zS P ty with
   | some el=>(match qDK P 8 el with
     | some t=>some (.d (.list el t) [])
     | none=>none)
   | none=>none
 | .c (.int k x)=>some (.c (.int k x))
 | .c .nilIface=>some (.c .nilIface)
 | .c (.bool b)=>some (.c (.bool b))
 | .c (.string b)=>some (.c (.string b))
 | .own k g n=>some (.own k g n)
 | .sl k g n o m=>some (.sl k g n o m)
 | .ref k o w=>some (.ref k o w)
 | .elt k g n w j o=>some (.elt k g n w j o)
 | .lp t xs j o=>some (.lp t xs j o)
 | .fn f a b=>some (.fn f a b)
 | _=>none
def zC4 (P:Program):List TypeId->List SV->Option (List SV)
 | ty::tys,v::l=>(match cond (Gc.ol ty) (some v) (rtS P ty v),zC4 P tys l with
   | some x,some y=>some (x::y)
   | _,_=>none)
 | [],l=>some l
 | _::_,[]=>some []
def zDN (P:Program)(ty:TypeId):SV->Option SV
 | .agg l=>(match zC4 P (wB P 8 ty) l with
   | some l'=>some (.agg l')
   | none=>none)
 | v=>rtS P ty v
theorem qRN {ty:TypeId}{v v':SV}(e:rtS P ty v=some v'):(rt1 P ty v.enc=v'.enc∧rt0 P ty v.enc=v'.enc)∧∀ h,v.ok h->v'.ok h:=by
 unfold rtS at e;split at e
 ·rename_i t x
  cases ht:(t.one&&t.nol) with
  | true =>
    rw[ht] at e;cases e
    refine⟨⟨?_,?_⟩,fun h hv=>hv⟩ <;>
    ·simp only[SV.enc];exact nS ht
  | false=>rw[ht] at e;cases e
 ·split at e
  ·rename_i el hel;split at e
   ·rename_i t ht;cases e
    refine⟨⟨?_,?_⟩,fun h _=>by simp[SV.ok]⟩ <;>
    ·simp only[SV.enc,fvv]
     show (match zS P ty with
      | some el=>PV.f (.l el 0 [])
      | none=>fvv (.slice none 0 0))=_
     rw[hel];rfl
   ·cases e
  ·cases e
 all_goals first
  | (cases e;exact⟨⟨by simp only[SV.enc];rfl,by simp only[SV.enc];rfl⟩,fun h hv=>hv⟩)
  | cases e
theorem qT5:∀ {tys:List TypeId} {l l':List SV},zC4 P tys l=some l'->rtL (rtC P) tys (qB l)=qB l'∧∀ h,okL h l->okL h l'
 | [],l,l',e=>by
   have e:some l=some l':=by cases l <;> exact e
   cases e;exact⟨by cases qB l <;> rfl,fun _ h=>h⟩
 | ty::tys,[],l',e=>by
   cases e;exact⟨by simp[qB,rtL],fun _ h=>h⟩
 | ty::tys,v::l,l',e=>by
   unfold zC4 at e;split at e
   ·rename_i x y hx hy;cases e;obtain⟨b1,b2⟩:=qT5 hy
    have hv:rtC P ty v.enc=x.enc∧∀ h,v.ok h->x.ok h:=by
     unfold rtC
     cases hc:Gc.ol ty with
     | true=>rw[hc] at hx;cases hx;exact⟨rfl,fun _ h=>h⟩
     | false=>rw[hc] at hx;exact⟨(qRN hx).1.2,(qRN hx).2⟩
    refine⟨?_,fun h hl=>?_⟩
    ·simp only[qB,rtL,hv.1,b1]
    ·simp only[okL] at hl ⊢;exact⟨hv.2 h hl.1,b2 h hl.2⟩
   ·cases e
theorem q6K {ty:TypeId}{v v':SV}(e:zDN P ty v=some v'):rt1 P ty v.enc=v'.enc∧∀ h,v.ok h->v'.ok h:=by
 unfold zDN at e;split at e
 ·rename_i l;split at e
  ·rename_i l' hl;cases e;obtain⟨a1,a2⟩:=qT5 hl;refine⟨?_,fun h hv=>?_⟩
   ·simp only[SV.enc];show PV.agg (rtL (rtC P) (wB P 8 ty) (qB l))=_;rw[a1]
   ·simp only[SV.ok] at hv ⊢;exact a2 h hv
  ·cases e
 ·exact⟨(qRN e).1.1,(qRN e).2⟩
def q9F (P:Program):List TypeId->List SV->Option (List SV)
 | _,[]=>some []
 | ty::tys,v::l=>(match zDN P ty v,q9F P tys l with
   | some x,some y=>some (x::y)
   | _,_=>none)
 | [],_::_=>none
theorem qX2:∀ {tys:List TypeId} {l l':List SV},q9F P tys l=some l'->rtL (rt1 P) tys (qB l)=qB l'∧∀ h,okL h l->okL h l'
 | tys,[],l',e=>by
   have:some []=some l':=by cases tys <;> exact e
   cases this;exact⟨by cases tys <;> simp[qB,rtL],fun h hl=>hl⟩
 | ty::tys,v::l,l',e=>by
   unfold q9F at e;split at e
   ·rename_i x y hx hy;cases e;obtain⟨a1,a2⟩:=q6K hx;obtain⟨b1,b2⟩:=qX2 hy;refine⟨?_,fun h hl=>?_⟩
    ·simp only[qB,rtL,a1,b1]
    ·simp only[okL] at hl ⊢;exact⟨a2 h hl.1,b2 h hl.2⟩
   ·cases e
 | [],_::_,_,e=>by cases e
def qT2:List SV->SV
 | [v]=>v
 | vs=>.tup vs
def zDK {R:Type}(P:Program)(zII:List TypeId)(rl:List Nat)(K:SV->SH->zF6 R):vR none R:=fun e _ env h=>match e with
 | .normal=>(match qH6 rl env with
   | some vs=>(match q9F P zII vs with
     | some ws=>K (qT2 ws) h
     | none=>.fail)
   | none=>.fail)
 | .ret=>(match qH6 rl env with
   | some vs=>(match q9F P zII vs with
     | some ws=>K (qT2 ws) h
     | none=>.fail)
   | none=>.fail)
 | _=>.fail
def q6A:List ResultVar->Option (List Nat)
 | []=>some []
 | .tmp t::l=>(q6A l).map (t::·)
 | .cell _ _::_=>none
omit [Yl] in
theorem qKM {env:List PV}{ph:PHp}:∀ {l:List ResultVar} {rl:List Nat},q6A l=some rl->qGL P env ph l=some (rl.map fun t=>(zJ env t).getD .unk)
 | [],rl,e=>by cases e;rfl
 | .tmp t::l,rl,e=>by
   obtain⟨rl',h1,rfl⟩:=zPV.1 e;simp only[qGL,q34,qKM h1,zP3]
 | .cell _ _::_,rl,e=>by cases e
abbrev Ans:=List (FuncId×(An×List Ty))
def ciN [Hnd](P:Program)(G:Nat->Bool)(T:zT)(IT:List (FuncId×zGS))(ans:Ans):Nat->CIT
 | 0=>fun R nm f as h K=>zDB P f as h K (Hnd.ci R nm f as h K)
 | n+1=>fun R nm f as h K=>match P.funcs[f]?,lkA f ans with
   | some fn,some (an,rs)=>(match fn.body,q6A fn.results.toList with
     | some c,some rl=>cond (enters P f&&Nat.ble as.length fn.ntmps) (ev (Γ:=none) P G T IT (ciN P G T IT ans n) yi0 an (rdR P h fn.resultTypes.toList rs fn.results.toList) (enR fn.ntmps fn.results.toList rs) h c false nm () (as++List.replicate (fn.ntmps - as.length) .unk) h (zDK P fn.resultTypes.toList rl K)) .fail
     | _,_=>.fail)
   | _,_=>zDB P f as h K (Hnd.ci R nm f as h K)
theorem qU7 {R:Type}{nm:Nm}{f:FuncId}{as:List SV}{h:SH}{K:SV->SH->zF6 R}{F:zF6 R}{r:R}(ho:OkH P h)(e:(zDB P f as h K F).run=some r) :
 qD0 P G nm f (qB as) (qC h.l) (fun v p=>∃ v' h',v=v'.enc∧p=qC h'.l∧Post P h h' v'∧(K v' h').run=some r)∨F.run=some r:=by
 have go:∀ {x y:SV} {s:ByteArray} {c z:Int},asS x=some s->asI y=some (.u8,c)->qMK P f=true∧yZ P (callFunc f #[.string s,.int .u8 c])=some (.value (.int .i64 z))->(K (.d (.int .i64) z) h).run=some r ->
  qD0 P G nm f (qB [x,y]) (qC h.l) (fun v p=>∃ v' h',v=v'.enc∧p=qC h'.l∧Post P h h' v'∧(K v' h').run=some r):=fun {x y s c z} hs hc hx hk=>by
  refine .inl ⟨hx.1,[.string s,.int .u8 c],.int .i64 z,?_,rfl,hx.2,rfl,_,h,?_,rfl,⟨.refl _,ho,?_⟩,hk⟩
  ·simp only[qB,fU hs,yD hc];rfl
  ·simp[SV.enc,Ty.fv];rfl
  ·simp[SV.ok]
 have go3:∀ {x y z:SV} {a b c u v:Int},asI x=some (.u64,a)->asI y=some (.u64,b)->asI z=some (.u64,c)->qMK P f=true∧yZ P (callFunc f #[.int .u64 a,.int .u64 b,.int .u64 c])=some (.value (.tuple #[.int .u64 u,.int .u64 v]))->(K (.tup [.d (.int .u64) u,.d (.int .u64) v]) h).run=some r ->
  qD0 P G nm f (qB [x,y,z]) (qC h.l) (fun v p=>∃ v' h',v=v'.enc∧p=qC h'.l∧Post P h h' v'∧(K v' h').run=some r):=fun {x y z a b c u v} ha hb hc hx hk=>by
  refine .inl ⟨hx.1,[.int .u64 a,.int .u64 b,.int .u64 c],.tuple #[.int .u64 u,.int .u64 v],?_,rfl,hx.2,rfl,_,h,?_,rfl,⟨.refl _,ho,?_⟩,hk⟩
  ·simp only[qB,yD ha,yD hb,yD hc];rfl
  ·simp[SV.enc,qB,Ty.fv];rfl
  ·simp[SV.ok,okL]
 unfold zDB at e;split at e
 ·rename_i x y hx;split at e
  ·rename_i s c hs hc;exact .inl (go hs hc (qUV hx) e)
  ·cases e
 ·rename_i x y hx;split at e
  ·rename_i s c hs hc;exact .inl (go hs hc (qXP hx) e)
  ·cases e
 ·rename_i x y z hx;split at e
  ·rename_i a b c ha hb hc
   rcases run_ite e with ⟨q,e1⟩ | ⟨_,e1⟩
   ·exact .inl (go3 ha hb hc (q8J hx q) e1)
   ·cases e1
  ·cases e
 ·rename_i x y z hx;split at e
  ·rename_i a b c ha hb hc
   rcases run_ite e with ⟨q,e1⟩ | ⟨_,e1⟩
   ·exact .inl (go3 ha hb hc (q7P hx q) e1)
   ·cases e1
  ·cases e
 ·exact .inr e
theorem qQD {env:List SV}:∀ {rl:List Nat} {vs:List SV},qH6 rl env=some vs->(rl.map fun t=>(zJ (qB env) t).getD PV.unk)=qB vs
 | [],vs,e=>by cases e;simp[qB]
 | i::is,vs,e=>by
   unfold qH6 at e;split at e
   ·rename_i v l hx hl;cases e;rw[zP3,qQD hl,qX,hx];simp[qB]
   ·cases e
theorem q0T (l:List SV):(qT2 l).enc=qDR (qB l):=by
 match l with
 | []=>simp[qT2,qDR,SV.enc,qB]
 | [v]=>simp[qT2,qDR,qB]
 | a::b::l=>simp[qT2,qDR,SV.enc,qB]
omit [Yl] in
theorem q60 {h:SH}{l:List SV}(hl:okL h l):(qT2 l).ok h:=by
 match l,hl with
 | [],hl=>simp[qT2,SV.ok,okL]
 | [v],hl=>simp only[okL] at hl;exact hl.1
 | a::b::l,hl=>simp only[qT2,SV.ok];exact hl
theorem qFO [Hnd][zG1 P G][zGT P G](s:zG4 P good nat G tab)(ht:qRS tab T)(hit:q41 P G IT)(ans:Ans):∀ n,qUY P G (ciN P G T IT ans n)
 | 0=>by
   intro nm f as h K r ho ha e;unfold ciN at e;rcases qU7 (nm:=nm) ho e with h1 | h1
   ·exact h1
   ·exact zG1.ok (P:=P) (G:=G) nm f as h K r ho ha h1
 | n+1=>by
   intro nm f as h K r ho ha e;unfold ciN at e;split at e
   case h_2 =>
    rcases qU7 (nm:=nm) ho e with h1 | h1
    ·exact h1
    ·exact zG1.ok (P:=P) (G:=G) nm f as h K r ho ha h1
   rename_i fn an rs hfn hans;split at e
   case h_2=>cases e
   rename_i c rl hbody hrl;obtain⟨hc,e⟩:=qE e;rw[zPK] at hc;have hal:as.length<=fn.ntmps:=zPU hc.2
   have hlen:(as++List.replicate (fn.ntmps - as.length) SV.unk).length=fn.ntmps:=by
    rw[zP9,zR0];omega
   refine q3L hc.1 hfn hbody rfl ?_
   have zGF:qB as++List.replicate (fn.ntmps - (qB as).length) PV.unk=qB (as++List.replicate (fn.ntmps - as.length) .unk):=by
    rw[d9,sQ,qQ]
   rw[zGF];refine (qR.runs (q3E (Γ:=none) (wd:=zBH) s ht hit (qFO s ht hit ans n) zDM (fun nm=>qP2 ho) c ho (gY ha (qEM _ _)) hlen (.refl _) e)).mono ?_;rintro ex pe ph ⟨env',h',rfl,rfl,k1,k2,k3,k0,k4,k5⟩
   have key:∀ {vs ws:List SV},qH6 rl env'=some vs->q9F P fn.resultTypes.toList vs=some ws->(K (qT2 ws) h').run=some r->∃ v,wL P fn (qB env') (qC h'.l)=some v∧∃ v' h2,v=v'.enc∧qC h'.l=qC h2.l∧Post P h h2 v'∧(K v' h2).run=some r:=fun {vs ws} hvs hws hk=>by
    obtain⟨a1,a2⟩:=qX2 hws;refine⟨(qT2 ws).enc,?_,qT2 ws,h',rfl,rfl,⟨k0,k2,q60 (a2 _ (zL.2 fun z hz=>zL.1 k1 z (qF5 hvs z hz)))⟩,hk⟩;unfold wL;rw[qKM hrl,qQD hvs,q0T,<-a1];rfl
   cases ex with
   | normal =>
     simp only[zDK] at k5;split at k5
     ·split at k5
      ·exact⟨.inl rfl,key ‹_› ‹_› k5⟩
      ·cases k5
     ·cases k5
   | ret =>
     simp only[zDK] at k5;split at k5
     ·split at k5
      ·exact⟨.inr rfl,key ‹_› ‹_› k5⟩
      ·cases k5
     ·cases k5
   | exit _=>cases k5
   | goto _=>cases k5
def zF4 {γ:Type}:vR (some γ) γ:=fun e g _ _=>match e with
 | .normal=>some g
 | .ret=>some g
 | _=>none
def fnI (P:Program)(G:Nat->Bool)(T:zT)(IT:List (FuncId×zGS))(CI:CIT)(an:An)(as ys:List Ty)(yt:List TypeId)(fn:Func)(x:TyL as)(γ:Type)(stp:γ->TyL ys->Option (γ×Bool))(g0:γ):Option γ:=match fn.body with
 | some c=>(ev (Γ:=some γ) (rs:=[]) P G T IT CI ⟨ys,yt,stp⟩ an (rdR P ⟨0,[]⟩ [] [] []) (enR fn.ntmps [] []) ⟨0,[]⟩ c false nm0 g0 (.yv::(qOP as x++List.replicate (fn.ntmps - (as.length+1)) .unk)) ⟨0,[]⟩ zF4).run
 | none=>none
end
noncomputable section
variable [Gc]
variable [Frs]
variable {P:Program}{G:Nat->Bool}{nm:Nm}{tab:uU}{nat:xI}{good:FuncId->Bool}{T:zT}{IT:List (FuncId×zGS)}
theorem q6V [zGT P G](s:zG4 P good nat G tab)(ht:∀ [Yl],qRS tab T)(hit:∀ [Yl],q41 P G IT){CI:[Yl]->CIT}(hci:∀ [Yl],qUY P G CI){an:An}{as ys:List Ty}{yt:List TypeId}{f:FuncId}{fn:Func}{F:TyL as->(γ:Type)->(γ->TyL ys->Option (γ×Bool))->γ->Option γ}
 (hent:entered P f=true) (hfn:P.funcs[f]?=some fn) (hc:(Nat.ble (as.length+1) fn.ntmps&&fn.results.toList.isEmpty)=true) (hF:∀ (y:Yl) x γ stp g0,@fnI _ _ y P G T IT CI an as ys yt fn x γ stp g0=F x γ stp g0) [Yl]:q39 P G f ⟨as,ys,yt,F⟩:=by
 refine⟨hent,fun x γ stp g0 g1 hx w l hst Z H D us hz hb hgl hW hv=>?_⟩
 letI:Yl:=⟨l⟩
 have hx:F x γ stp g0=some g1:=hx;rw[<-hF ⟨l⟩] at hx;unfold fnI at hx;split at hx
 case h_2=>cases hx
 rename_i c hbody;rw[zPK] at hc;have hal:=zPU hc.1;have hres:fn.results=#[]:=by simpa using hc.2
 have hlen:(SV.yv::(qOP as x++List.replicate (fn.ntmps - (as.length+1)) SV.unk)).length=fn.ntmps:=by
  rw[zP5,zP9,qII,zR0];omega
 have hok:okL ⟨0,[]⟩ (SV.yv::(qOP as x++List.replicate (fn.ntmps - (as.length+1)) SV.unk)):=by
  simp only[okL];exact⟨by simp[SV.ok],gY (qVF as x) (qEM _ _)⟩
 have hy:YOk P G (Γ:=GV (some γ)) w ⟨ys,yt,stp⟩:=fun g y g' b h=>hst g y g' b h
 have hrun:=q3E (Γ:=some γ) (wd:=w) s ht hit hci hy (fun nm=>qP2 tC) c tC hok hlen (.refl _) hx;refine gF.of hfn hbody rfl ?_;have e0:own (fun _=>0) []=fun _=>none:=rfl
 have hp0:Hp P Z H (own (fun _=>0) []):=⟨hz,fun k b ob hk=>(by cases hk),fun k k' b b' ob ob' hk=>(by cases hk),hgl⟩
 have zGF:VRL P Z H (own (fun _=>0) []) (qB (SV.yv::(qOP as x++List.replicate (fn.ntmps - (as.length+1)) SV.unk))) ((.func (.yield l) #[] #[]::us)++List.replicate (fn.ntmps - (Value.func (.yield l) #[] #[]::us).length) undef):=by
  simp only[qB,d9,qF3,sQ,zRM];refine .cons .yl ?_;have hul:us.length=as.length:=by rw[<-hv.len,<-qF3,qQ,qII]
  rw[zP5,hul];refine VRL.append hv ⟨by simp,fun i z v h1 h2=>?_⟩;rw[zR6] at h1;split at h1
  ·cases h1;exact .unk
  ·cases h1
 refine (hrun Z H (fun _=>0) _ D ⟨hp0,zGF,hW,fun b _=>qDW b⟩ hb).mono ?_;rintro o ⟨Z',m',pe,ph,g',D',st,sd,kr,env',h',rfl,rfl,k1,k2,k3,k0,k4,k5⟩
 obtain⟨he,hg⟩:(o.e=.normal∨o.e=.ret)∧g'=g1:=by
  cases hoe:o.e with
  | normal=>rw[hoe] at k5;exact⟨.inl rfl,zQJ k5⟩
  | ret=>rw[hoe] at k5;exact⟨.inr rfl,zQJ k5⟩
  | exit _=>rw[hoe] at k5;cases k5
  | goto _=>rw[hoe] at k5;cases k5
 subst hg;refine⟨he,.tuple #[],by unfold vG;rw[hres];rfl,Z',D',st.hp.zlt,st.wd,⟨sd.size,sd.base,sd.zle,fun b h1 h2 h3=>sd.keep b h1 h2 h3,fun b h1 h2=>sd.zG9 b h1 h2,fun b h1 _=>absurd h1 (qDW b),sd.zHS⟩⟩
def Lib (P:Program)(good:FuncId->Bool)(G:Nat->Bool)(T:zT)(IT:List (FuncId×zGS)):Prop:=∃ nat tab,zG4 P good nat G tab∧(∀ [Yl],qRS tab T)∧∀ [Yl],q41 P G IT
theorem Lib.zHO (L:Lib P good G T IT)(g:FuncId)(as rs:List Ty)(F:TyL as->Option (TyL rs))(hent:enters P g=true)
 (h:∀ {nat:xI},Setup P good nat G->∀ (x:TyL as) (y:TyL rs) (args:List Value) (H:IH),F x=some y->(∃ Z:Nat->Prop,VRL P Z H (fun _=>none) ((enL as).p x) args∧∀ b,Z b->b < H.size)->H.base<=H.size->GlH H->gF P G g args H fun q=>q0Y P (enL as) F (jO rs) x args H q.1 q.2):Lib P good G ((g,⟨as,rs,F⟩)::T) IT:=by
 obtain⟨nat,tab,s,ht,hit⟩:=L
 letI:Yl:=⟨0⟩
 refine⟨_,_,s.zHO (enL as) F (jO rs) hent (qOO rs) (h s.s),?_,hit⟩;intro _ g' ent hg x;have hg:cond (Nat.beq g' g) (some (⟨as,rs,F⟩:Ent)) (slT g' T)=some ent:=hg;unfold q4Z
 cases hb:Nat.beq g' g with
 | true =>
   rw[hb] at hg;cases hg;exact qQL (a:=enL as) x
 | false =>
   rw[hb] at hg;exact ht g' ent hg x
theorem Lib.add [Hnd][zG1 P G][zGT P G](L:Lib P good G T IT)(g:FuncId)(ans:Ans)(n:Nat)(an:An)(as rs:List Ty)(fn:Func)(F:TyL as->Option (TyL rs))(hent:enters P g=true)(hfn:P.funcs[g]?=some fn)(hc:qTX as rs fn=true)
 (hF:∀ (y:Yl) x,@fnS _ _ y P G T IT (ciN P G T IT ans n) an as rs fn x=F x):Lib P good G ((g,⟨as,rs,F⟩)::T) IT:=by
 obtain⟨nat,tab,s,ht,hit⟩:=L
 letI:Yl:=⟨0⟩
 have hF2:fnS P G T IT (ciN P G T IT ans n) an as rs fn=F:=funext fun x=>hF ⟨0⟩ x
 have zJ4:=zBE (an:=an) (as:=as) (rs:=rs) s ht hit (qFO s ht hit ans n) hfn hc;rw[hF2] at zJ4;refine⟨_,_,s.add (enL as) F (jO rs) hent (qOO rs) zJ4,?_,hit⟩;intro _ g' ent hg x;have hg:cond (Nat.beq g' g) (some (⟨as,rs,F⟩:Ent)) (slT g' T)=some ent:=hg;unfold q4Z
 cases hb:Nat.beq g' g with
 | true =>
   rw[hb] at hg;cases hg;exact qQL (a:=enL as) x
 | false =>
   rw[hb] at hg;exact ht g' ent hg x
theorem Lib.zN8 [Hnd][zG1 P G][zGT P G](L:Lib P good G T IT)(f:FuncId)(ans:Ans)(n:Nat)(an:An)(as ys:List Ty)(yt:List TypeId)(fn:Func)(F:TyL as->(γ:Type)->(γ->TyL ys->Option (γ×Bool))->γ->Option γ)(hent:entered P f=true)(hfn:P.funcs[f]?=some fn)(hc:(Nat.ble (as.length+1) fn.ntmps&&fn.results.toList.isEmpty)=true)
 (hF:∀ (y:Yl) x γ stp g0,@fnI _ _ y P G T IT (ciN P G T IT ans n) an as ys yt fn x γ stp g0=F x γ stp g0):Lib P good G T ((f,⟨as,ys,yt,F⟩)::IT):=by
 obtain⟨nat,tab,s,ht,hit⟩:=L;refine⟨nat,tab,s,ht,?_⟩;intro _ f' ent hg;have hg:cond (Nat.beq f' f) (some (⟨as,ys,yt,F⟩:zGS)) (slI f' IT)=some ent:=hg
 cases hb:Nat.beq f' f with
 | true =>
   rw[hb] at hg;cases hg;rw[zPL hb];exact q6V s ht hit (CI:=ciN P G T IT ans n) (qFO s ht hit ans n) hent hfn hc hF
 | false =>
   rw[hb] at hg;exact hit f' ent hg
theorem Lib.zKT [Hnd][zG1 P G][zGT P G](L:Lib P good G T IT)(g:FuncId)(ans:Ans)(an:An)(as rs:List Ty)(fn:Func)(F:TyL as->Option (TyL rs))(hent:enters P g=true)(hfn:P.funcs[g]?=some fn)(hc:qTX as rs fn=true)
 (hF:(fun (y:Yl) (x:TyL as)=>@fnS _ _ y P G T IT (ciN P G T IT ans 3) an as rs fn x)=fun (_:Yl) x=>F x):Lib P good G ((g,⟨as,rs,F⟩)::T) IT:=L.add g ans 3 an as rs fn F hent hfn hc fun y x=>congrFun (congrFun hF y) x
theorem Lib.zLB [Hnd][zG1 P G][zGT P G](L:Lib P good G T IT)(f:FuncId)(ans:Ans)(an:An)(as ys:List Ty)(yt:List TypeId)(fn:Func)(F:TyL as->(γ:Type)->(γ->TyL ys->Option (γ×Bool))->γ->Option γ)(hent:entered P f=true)(hfn:P.funcs[f]?=some fn)(hc:(Nat.ble (as.length+1) fn.ntmps&&fn.results.toList.isEmpty)=true)
 (hF:(fun (y:Yl) (x:TyL as) (γ:Type) (stp:γ->TyL ys->Option (γ×Bool)) (g0:γ)=>@fnI _ _ y P G T IT (ciN P G T IT ans 3) an as ys yt fn x γ stp g0)=fun (_:Yl) x γ stp g0=>F x γ stp g0):Lib P good G T ((f,⟨as,ys,yt,F⟩)::IT) :=
 L.zN8 f ans 3 an as ys yt fn F hent hfn hc fun y x γ stp g0=>congrFun (congrFun (congrFun (congrFun (congrFun hF y) x) γ) stp) g0
end
end Go.Sv
namespace Go.Sv
open Go.Idl
variable [Gc]{P:Program}{G:Nat->Bool}{tab:uU}{nat:xI}{good:FuncId->Bool}
theorem qVC {k:IntKind}:∀ {cs:List FV},cs.all (isK k)=true->∃ xs:List Int,cs=List.flatMap (Ty.int k).cells xs∧xs.length=cs.length
 | [],_=>⟨[],rfl,rfl⟩
 | c::cs,h=>by
   rw[zQY,zPK] at h;obtain⟨xs,h1,h2⟩:=qVC h.2;have hc:=h.1;unfold isK at hc;split at hc
   ·rename_i k' x;have:k=k':=of_decide_eq_true hc;subst this;exact⟨x::xs,by rw[zQC,<-h1];rfl,by rw[zP5,zP5,h2]⟩
   ·cases hc
theorem zBC [Frs] (s:zG4 P good nat G tab) (h:∀ g el,Frs.fr g=some el->enters P g=true∧qMK P g=false∧szT P el=some 1∧tab g [.f (.l el 0 [])]=some (.f (.l el 0 [])) ∧
 ∀ (xs:List Int),xs≠[]->Nat.ble xs.length 1048576=true->qD0 P G nm0 g [.f (.l el xs.length (List.flatMap (Ty.int Frs.fk).cells xs))] [] fun v p=>∃ k0,v=.own k0 xs.length 0 xs.length∧qA k0 p=some ⟨el,true,(List.flatMap (Ty.int Frs.fk).cells xs).map .f⟩):zGT P G:=by
 refine⟨fun g el hg=>?_⟩;obtain⟨h1,hx,hsz,h2,h3⟩:=h g el hg;refine⟨h1,fun n cs hfo Z H zGK hp hb hv=>?_⟩;unfold qMH at hfo;rw[hsz] at hfo;simp only[zPK] at hfo;obtain⟨f1,f2,_,f3⟩:=hfo;obtain⟨xs,rfl,hlen⟩:=qVC f3
 have hn:n=xs.length:=by
  have:=zPL f1;omega
 subst hn;by_cases hxs:xs=[]
 ·subst hxs;obtain⟨_,_,k,hk,hc⟩:=s.t g _ _ h2;intro args' f w hR hG ha;refine s.s.spec g k hk zGK args' H f w _ hR hG ha (hc Z H zGK hv hp.zlt hb hp.gl _ fun v H' Z' k1 k2 k3 k4 k5=>?_);have hp2:Hp P Z' H' (own (fun _=>0) []):=hp.old k1 k2 k3 k4;exact⟨Z',fun _=>0,.f (.l el 0 []),[],hp2,k5,.old k1 k2 k4,.inl ⟨rfl,rfl⟩⟩
 ·rcases h3 xs hxs f2 with ⟨e,_⟩ | ⟨_,hc⟩
  ·rw[hx] at e;cases e
  ·refine (hc Z H (fun _=>0) zGK hp hb hv).mono ?_;rintro r ⟨Z',m',pv,ph',a,b,c,d,k0,rfl,e⟩;refine⟨Z',m',_,ph',a,b,c,.inr ⟨fun h=>hxs (zSW h),k0,rfl,e⟩⟩
end Go.Sv
namespace Go.Sv
open Go.Idl
noncomputable section
variable [Gc]
variable [Frs]
variable [Yl]
variable {P:Program}{G:Nat->Bool}{nm:Nm}{tab:uU}{nat:xI}{good:FuncId->Bool}{T:zT}{IT:List (FuncId×zGS)}{R:Type}{r:R}
def q2E:SV->SV->Bool
 | .ref k o w,.ref k' o' w'=>Nat.beq k k'&&(Nat.beq o o'&&Nat.beq w w')
 | _,_=>false
def qPN:List SV->List SV->Bool
 | [],[]=>true
 | x::l,y::m=>q2E x y&&qPN l m
 | _,_=>false
def qWH:SV->SV->Bool
 | .fn f [] b,.fn g [] d=>Nat.beq f g&&qPN b d
 | x,y=>q2E x y
omit [Yl] in
theorem qR6 {x y:SV}(e:q2E x y=true):x=y:=by
 unfold q2E at e;split at e
 ·simp only[zPK] at e;rw[zPL e.1,zPL e.2.1,zPL e.2.2]
 ·cases e
omit [Yl] in
theorem qJF:∀ {x y:List SV},qPN x y=true->x=y
 | [],[],_=>rfl
 | a::x,b::y,e=>by
   simp only[qPN,zPK] at e;rw[qR6 e.1,qJF e.2]
 | [],_::_,e=>by cases e
 | _::_,[],e=>by cases e
omit [Yl] in
theorem qY9 {x y:SV}(e:qWH x y=true):x=y:=by
 unfold qWH at e;split at e
 ·rw[zPK] at e;rw[zPL e.1,qJF e.2]
 ·exact qR6 e
def q7X (d:List Nat):Nat->List SV->List SV->Bool
 | _,[],[]=>true
 | i,x::l,y::m=>(nP i d||qWH x y)&&q7X d (i+1) l m
 | _,_,_=>false
omit [Yl] in
theorem qOI {d:List Nat}:∀ {i:Nat} {l m:List SV},q7X d i l m=true->l.length=m.length∧∀ j,(j+i) ∉ d->zJ l j=zJ m j
 | _,[],[],_=>⟨rfl,fun _ _=>rfl⟩
 | i,x::l,y::m,e=>by
   simp only[q7X,zPK,zQN] at e;obtain⟨a1,a2⟩:=qOI e.2;refine⟨by simp[a1],fun j hj=>?_⟩
   cases j with
   | zero =>
     rcases e.1 with q | q
     ·exact absurd (xM.1 q) (by simpa using hj)
     ·rw[qY9 q];rfl
   | succ j=>exact a2 j (by rw[zRH,zSC 1 i] at hj;exact hj)
 | _,[],_::_,e=>by cases e
 | _,_::_,[],e=>by cases e
def qLG (ls:List Nat):List (Nat×SO)->List (Nat×SO)
 | []=>[]
 | p::l=>cond (nP p.1 ls) (p::qLG ls l) (qLG ls l)
omit [Yl] in
theorem qBP {ls:List Nat}{k:Nat}(hk:k∈ls):∀ {l:List (Nat×SO)},slk k (qLG ls l)=slk k l
 | []=>rfl
 | (j,p)::l=>by
   unfold qLG;by_cases hjk:k=j
   ·subst hjk;simp only[xM.2 hk,cond_true];simp[slk]
   ·have hb:(k==j)=false:=by simpa using hjk
    cases hm:nP j ls with
    | true=>simp[slk,hb,qBP hk (l:=l)]
    | false=>simp[slk,hb,qBP hk (l:=l)]
omit [Yl] in
theorem qPK:∀ {is:List Nat} {m r1 r2:List SV},(cO is m r1).2=(cO is m r2).2
 | [],m,r1,r2=>rfl
 | i::is,c::m,r1,r2=>qPK (is:=is) (m:=m)
 | _::_,[],_,_=>rfl
omit [Yl] in
theorem aU {ls:List Nat}{k:Nat}{o:SO}:∀ {l:List (Nat×SO)},slk k (qLG ls l)=some o->k∈ls∧slk k l=some o
 | [],h=>by cases h
 | (j,p)::l,h=>by
   unfold qLG at h;by_cases hjk:k=j
   ·subst hjk
    cases hm:nP k ls with
    | true =>
      simp only[hm,cond_true] at h;refine⟨xM.1 hm,?_⟩;simpa [slk] using h
    | false =>
      simp only[hm,cond_false] at h;have:=(aU h).1;rw[xM.2 this] at hm;cases hm
   ·have hb:(k==j)=false:=by simpa using hjk
    have h2:slk k (qLG ls l)=some o:=by
     cases hm:nP j ls with
     | true=>simpa [hm,slk,hb] using h
     | false=>simpa [hm] using h
    obtain⟨a,b⟩:=aU h2;exact⟨a,by simpa [slk,hb] using b⟩
def SH.only (h:SH)(ls:List Nat):SH:=⟨h.next,qLG ls h.l⟩
omit [Yl] in
theorem q2U {h:SH}{ls:List Nat}(a:OkH P h):Keep h (h.only ls)∧OkH P (h.only ls):=by
 have hl:∀ j ob,slk j (h.only ls).l=some ob->slk j h.l=some ob:=fun j ob hj=>(aU hj).2
 have hkp:Keep h (h.only ls):=⟨zPM _,fun j ob hj _=>hl j ob hj,fun j el gr g w t xs hj _=>⟨w,xs,hl _ _ hj,rfl⟩⟩
 exact⟨hkp,⟨fun j ob hj=>a.ver j ob (hl j ob hj),fun j el w l hj=>qJ hkp (a.cells j el w l (hl _ _ hj)),fun j el gr g w t xs hj=>a.list j el gr g w t xs (hl _ _ hj)⟩⟩
structure RT where
 g:FuncId
 nm:Nm
 as:List SV
 bx:List (Nat×TypeId)
 cx:List (Nat×TypeId×List SV)
 d:List Nat
 os:List (Nat×Bool)
 b:List (Nat×List (Option Nat))
 ts:List Ty
 fz:List (Nat×TypeId)
def RT.sh (q:RT):Sh:=⟨q.d,q.os.map (·.1),[],[],[],q.b,[]⟩
def qZZ:List (Nat×TypeId)->List (Nat×SO)
 | []=>[]
 | p::l=>(p.1,.cells p.2 0 [])::qZZ l
def q9J (bs:List (Nat×SO)):List (Nat×TypeId×List SV)->List (Nat×SO)
 | []=>bs
 | p::l=>(p.1,.cells p.2.1 0 p.2.2)::q9J bs l
def RT.hT (q:RT):SH:=⟨1,q9J (qZZ q.bx) q.cx⟩
def zCW:SV->Bool
 | .ref _ _ _=>true
 | .fn _ [] b=>b.all fun x=>match x with
   | .ref _ _ _=>true
   | _=>false
 | _=>false
omit [Yl] in
theorem qU9 {h:SH}{x:SV}(e:zCW x=true):x.ok h:=by
 unfold zCW at e;split at e
 ·simp[SV.ok]
 ·rename_i f b;simp only[SV.ok,okL,true_and];refine zL.2 fun y hy=>?_
  have:=zPN.1 e y hy;split at this
  ·simp[SV.ok]
  ·cases this
 ·cases e
def RT.chk (q:RT):Bool:=(q.as.all fun x=>zCW x||(match x with
 | .unk=>true
 | _=>false))&&q.cx.all fun p=>p.2.2.all zCW
omit [Yl] in
theorem qJ1 {k:Nat}{o:SO}:∀ {l:List (Nat×TypeId)},slk k (qZZ l)=some o->∃ el,o=.cells el 0 []
 | [],h=>by cases h
 | p::l,h=>by
   have h:cond (k==p.1) (some (SO.cells p.2 0 [])) (slk k (qZZ l))=some o:=h
   cases hk:k==p.1 with
   | true=>rw[hk] at h;cases h;exact⟨_,rfl⟩
   | false=>rw[hk] at h;exact qJ1 h
omit [Yl] in
theorem oN {k:Nat}{o:SO}{bs:List (Nat×TypeId)}:∀ {l:List (Nat×TypeId×List SV)},slk k (q9J (qZZ bs) l)=some o->(∃ el,o=.cells el 0 [])∨∃ p∈l,o=.cells p.2.1 0 p.2.2
 | [],h=>.inl (qJ1 h)
 | p::l,h=>by
   have h:cond (k==p.1) (some (SO.cells p.2.1 0 p.2.2)) (slk k (q9J (qZZ bs) l))=some o:=h
   cases hk:k==p.1 with
   | true=>rw[hk] at h;cases h;exact .inr ⟨p,zPX,rfl⟩
   | false =>
     rw[hk] at h
     rcases oN h with q | ⟨p',q,e⟩
     ·exact .inl q
     ·exact .inr ⟨p',zPS _ q,e⟩
omit [Yl] in
theorem RT.ok {q:RT}(h:q.chk=true):OkH P q.hT∧okL q.hT q.as:=by
 unfold RT.chk at h;rw[zPK] at h;refine⟨⟨fun k ob hk=>?_,fun k el w l hk=>?_,fun k el gr g w t xs hk=>?_⟩,zL.2 fun x hx=>?_⟩
 ·rcases oN hk with ⟨el,rfl⟩ | ⟨p,_,rfl⟩ <;> exact Nat.zero_lt_one
 ·rcases oN hk with ⟨el,e⟩ | ⟨p,hp,e⟩
  ·cases e;simp[okL]
  ·cases e;exact zL.2 fun x hx=>qU9 (zPN.1 (zPN.1 h.2 p hp) x hx)
 ·rcases oN hk with ⟨el,e⟩ | ⟨p,_,e⟩ <;> cases e
 ·have:=zPN.1 h.1 x hx;rw[zQN] at this;rcases this with e | e
  ·exact qU9 e
  ·split at e
   ·simp[SV.ok]
   ·cases e
def q9N (cx:List (Nat×TypeId×List SV))(h:SH):Bool:=cx.all fun p=>match slk p.1 h.l with
 | some (.cells el _ l)=>Nat.beq el p.2.1&&(Nat.beq l.length p.2.2.length&&q7X [] 0 l p.2.2)
 | _=>false
omit [Yl] in
theorem q72 {l m:List SV}(e:q7X [] 0 l m=true):l=m:=by
 obtain⟨a,b⟩:=qOI e;apply zQ1;intro i;have:=b i (by simp)
 rwa [qF,qF] at this
def RT.rd (q:RT)(h1:SH)(env:List SV)(h:SH):Option (TyL q.ts):=match qH6 q.d env,qTZ q.sh.o h,qZ0 q.b h with
 | some a,some b,some c=>(match tZ q.ts (a++(b++c)) with
   | some s=>cond (qT4 q.os h&&(nH (q.b.map (·.1)) q.b h1 h&&q9N q.cx h)) (some s) none
   | none=>none)
 | _,_,_=>none
def RT.bs (q:RT):List Nat:=q.b.map (·.1)++q.cx.map (·.1)
def RT.put (P:Program)(q:RT)(env:List SV)(h:SH)(s:TyL q.ts):Option (List SV×SH):=mkS P q.d q.sh q.ts q.os env h s
def RT.call (q:RT)(nm:Nm)(as:List SV)(h:SH):Option (TyL q.ts):=cond (q7X q.d 0 as q.as&&((q.os.all fun p=>nm.p p.1||!q.nm.p p.1)&&(q.bs.all fun k=>!q.nm.p k))) (q.rd q.hT as h) none
def recC (P:Program)(q:RT)(F:TyL q.ts->Option (TyL q.ts))(CI:CIT):CIT:=fun R nm f as h K=>cond (Nat.beq f q.g)
 (match q.call nm as h with
   | some s=>.bind (F s) fun s'=>goS (q.put P as (h.only q.bs) s') fun _ hh=>K (.tup []) hh
   | none=>.fail)
 (CI R nm f as h K)
def zFZ (P:Program)(q:RT):vR none (TyL q.ts):=fun e _ env h=>match e with
 | .normal=>fzv P q.nm q.fz env h fun env h=>q.rd q.hT env h
 | .ret=>fzv P q.nm q.fz env h fun env h=>q.rd q.hT env h
 | _=>none
def zDJ (P:Program)(G:Nat->Bool)(T:zT)(IT:List (FuncId×zGS))(q:RT)(CI:CIT)(an:An)(fn:Func)(s:TyL q.ts):Option (TyL q.ts):=match fn.body,q.put P q.as q.hT s with
 | some c,some p=>(ev (Γ:=none) P G T IT CI yi0 an (rdR P ⟨0,[]⟩ fn.resultTypes.toList [] []) (enR fn.ntmps [] []) ⟨0,[]⟩ c false q.nm () (p.1++List.replicate (fn.ntmps - p.1.length) .unk) p.2 (zFZ P q)).run
 | _,_=>none
def qY2 (P:Program)(q:RT)(fn:Func):Bool:=enters P q.g&&(q.chk&&(Nat.ble q.as.length fn.ntmps&&fn.results.toList.isEmpty))
theorem RT.zJ5 {q:RT}{h1:SH}{env:List SV}{h:SH}{s:TyL q.ts}(e:q.rd h1 env h=some s) :
 ∃ a b c,qH6 q.d env=some a∧qTZ q.sh.o h=some b∧qZ0 q.b h=some c∧tZ q.ts (a++(b++c))=some s∧qT4 q.os h=true∧nH (q.b.map (·.1)) q.b h1 h=true∧q9N q.cx h=true:=by
 unfold RT.rd at e;split at e
 case h_2=>cases e
 rename_i a b c ha hb hc;split at e
 case h_2=>cases e
 rename_i s' hs
 cases hx:(qT4 q.os h&&(nH (q.b.map (·.1)) q.b h1 h&&q9N q.cx h)) with
 | false=>rw[hx] at e;cases e
 | true =>
   rw[hx] at e;cases e;simp only[zPK] at hx;exact⟨a,b,c,ha,hb,hc,hs,hx.1,hx.2.1,hx.2.2⟩
omit [Yl] in
theorem qO4 {cx:List (Nat×TypeId×List SV)}{h:SH}(e:q9N cx h=true){p:Nat×TypeId×List SV}(hp:p∈cx):∃ w,slk p.1 h.l=some (.cells p.2.1 w p.2.2):=by
 unfold q9N at e;have:=zPN.1 e p hp;split at this
 ·rename_i el w l hl;simp only[zPK] at this;rw[hl,zPL this.1,q72 this.2.2];exact⟨w,rfl⟩
 ·cases this
theorem q20 {q:RT}{h:SH}(e:q9N q.cx h=true){k:Nat}{o:SO}(hk:k ∉ q.b.map (·.1))(hq:∀ p∈q.bx,p.1∈q.b.map (·.1))(hl:slk k q.hT.l=some o):qA k (qC h.l)=some o.enc:=by
 have go:∀ {l:List (Nat×TypeId×List SV)},(∀ p∈l,p∈q.cx)->slk k (q9J (qZZ q.bx) l)=some o->qA k (qC h.l)=some o.enc:=fun {l}=>by
  induction l with
  | nil =>
    intro _ hl
    have gb:∀ {m:List (Nat×TypeId)},(∀ p∈m,p∈q.bx)->slk k (qZZ m)=some o->False:=fun {m}=>by
     induction m with
     | nil=>intro _ h;cases h
     | cons p m ih =>
       intro hm h;have h:cond (k==p.1) (some (SO.cells p.2 0 [])) (slk k (qZZ m))=some o:=h
       cases hb:k==p.1 with
       | true =>
         have:k=p.1:=by simpa using hb
         exact hk (by rw[this];exact hq p (hm p zPX))
       | false=>rw[hb] at h;exact ih (fun x hx=>hm x (zPS _ hx)) h
    exact (gb (fun _ h=>h) hl).elim
  | cons p l ih =>
    intro hm h2;have h2:cond (k==p.1) (some (SO.cells p.2.1 0 p.2.2)) (slk k (q9J (qZZ q.bx) l))=some o:=h2
    cases hb:k==p.1 with
    | true =>
      rw[hb] at h2;cases h2;have:k=p.1:=by simpa using hb
      subst this;obtain⟨w,hw⟩:=qO4 e (hm p zPX);rw[zN hw];rfl
    | false=>rw[hb] at h2;exact ih (fun x hx=>hm x (zPS _ hx)) h2
 exact go (fun _ h=>h) hl
def RT.zMT (q:RT):Bool:=q.bx.all fun p=>nP p.1 (q.b.map (·.1))
theorem qW7 [zGT P G](s:zG4 P good nat G tab)(ht:qRS tab T)(hit:q41 P G IT){q:RT}{CI' CI:CIT}(hci:qUY P G CI)(zN9:qUY P G CI'){an:An}{fn:Func}(hfn:P.funcs[q.g]?=some fn)(hc:qY2 P q fn=true)(hbx:q.zMT=true){F:TyL q.ts->Option (TyL q.ts)}
 (hF:∀ x y,F x=some y->zDJ P G T IT q CI' an fn x=some y):qUY P G (recC P q F CI):=by
 intro R nm f as h K r ho ha e;unfold recC at e
 cases hf:Nat.beq f q.g with
 | false=>rw[hf] at e;exact hci nm f as h K r ho ha e
 | true =>
 rw[hf] at e;have:=zPL hf;subst this;simp only[cond_true] at e;split at e
 case h_2=>cases e
 rename_i x hcall;obtain⟨y,hy,e⟩:=run_bind e;obtain⟨e2,hh,zMU,hK⟩:=pV e;unfold RT.call at hcall
 cases hck:(q7X q.d 0 as q.as&&((q.os.all fun p=>nm.p p.1||!q.nm.p p.1)&&(q.bs.all fun k=>!q.nm.p k))) with
 | false=>rw[hck] at hcall;cases hcall
 | true =>
 rw[hck] at hcall;simp only[zPK] at hck;obtain⟨has,hos,hbs⟩:=hck;obtain⟨a,b,c,r1,r2,r3,r4,r5,r6,r7⟩:=RT.zJ5 hcall;have hrun:=hF x y hy;unfold zDJ at hrun;split at hrun
 case h_2=>cases hrun
 rename_i code p hbody hmk;obtain⟨ec,hcn⟩:=p;unfold qY2 at hc;simp only[zPK] at hc;obtain⟨hent,hqc,hlen,hres⟩:=hc;obtain⟨hoT,haT⟩:=RT.ok (P:=P) hqc;have hq:∀ p∈q.bx,p.1∈q.b.map (·.1):=fun p hp=>xM.1 (zPN.1 hbx p hp)
 obtain⟨l1,l2⟩:=qOI has;have hbl:WkP (qB as) (qB (blank q.d 0 q.as)):=qAQ l1 fun i hi=>by rw[qX,qX,l2 i hi]
 obtain⟨wp,sp⟩:=q1T (sh:=q.sh) ho hoT ha r1 r2 r3 r4 hmk rfl r5 rfl r6 (fun k o _ hk hl=>q20 r7 hk hq hl) hbl;obtain⟨_,m2,m3,m4,_,_⟩:=u6 hoT haT hmk;have hal:ec.length<=fn.ntmps:=by rw[m4];exact zPU hlen
 have hl:(ec++List.replicate (fn.ntmps - ec.length) SV.unk).length=fn.ntmps:=by
  rw[zP9,zR0];omega
 have hrr:fn.results.toList=[]:=by
  cases hx:fn.results.toList with
  | nil=>rfl
  | cons _ _=>rw[hx] at hres;cases hres
 have hev:=qR.runs (q3E (Γ:=none) (wd:=zBH) (an:=an) (rdv:=rdR P ⟨0,[]⟩ fn.resultTypes.toList [] []) (en:=enR fn.ntmps [] []) (hb:=⟨0,[]⟩) (N:=fn.ntmps) s ht hit zN9 zDM (fun nm=>qP2 (rs:=[]) (rv:=[]) tC) code m2 (gY m3 (qEM _ _)) hl ⟨zRJ _,fun k ob _ h=>absurd h (zT1 _),fun k el gr g w t xs _ h=>absurd h (zT1 _)⟩ hrun);refine .inr ⟨hent,fun Z H m zGK hp zOA hv=>?_⟩;refine gF.of hfn hbody rfl ?_;obtain⟨Z1,mm,w1,w2,w3,w4⟩:=Wk.drop (P:=P) (nm:=q.nm) wp sp Z H m zGK hp hv;have hla:zGK.length=ec.length:=by rw[<-w2.len,qQ]
 have zGF:VRL P Z1 H (own mm (qC hcn.l)) (qB (ec++List.replicate (fn.ntmps - ec.length) .unk)) (zGK++List.replicate (fn.ntmps - zGK.length) undef):=by
  rw[d9,sQ,hla];refine VRL.append w2 ⟨by simp,fun i z v h1 h2=>?_⟩;rw[zR6] at h1;split at h1
  ·cases h1;exact .unk
  ·cases h1
 refine (hev Z1 H mm _ w1 zOA zGF).mono ?_;rintro o ⟨Z2,m',zGN,ph2,a1,b1,c1,d1,env',h',rfl,rfl,k1,k2,k3,k0,k4,k5⟩
 have hpr:wL P fn (qB env') (qC h'.l)=some (.tup []):=by
  unfold wL;rw[hrr];cases hx:fn.resultTypes.toList <;> rfl
 obtain⟨u,v1,v2⟩:=nK a1 b1 hpr
 obtain⟨he,zOB⟩:(o.e=.normal∨o.e=.ret)∧(fzv P q.nm q.fz env' h' fun env h=>(q.rd q.hT env h:zF6 (TyL q.ts))).run=some y:=by
  cases ho:o.e with
  | normal=>rw[ho] at k5;exact⟨.inl rfl,k5⟩
  | ret=>rw[ho] at k5;exact⟨.inr rfl,k5⟩
  | exit _=>rw[ho] at k5;cases k5
  | goto _=>rw[ho] at k5;cases k5
 obtain⟨zGC,h1,wz,zHP,hrd⟩:=qR9 (nm:=q.nm) k2 k1 zOB;have hrd:q.rd q.hT zGC h1=some y:=hrd;have ho1:=zHP.2.1;obtain⟨Z3,m3',x1,x2,x3,x4⟩:=wz Z2 o.H m' o.env a1 b1;obtain⟨a',b',c',s1,s2,s3,s4,s5,s6,s7⟩:=RT.zJ5 hrd;obtain⟨ko,kok⟩:=q2U (ls:=q.bs) ho;have hde:=bQ s4
 -- the state behind it,where the call stands
 have hsb:nH (q.b.map (·.1)) q.b (h.only q.bs) h1=true:=by
  unfold nH at s6 r6 ⊢;rw[zPN] at s6 r6 ⊢;intro p hp;have h1:=s6 p hp;have h2:=r6 p hp;have hk:slk p.1 (h.only q.bs).l=slk p.1 h.l:=qBP (zQW _ (zS5 hp));rw[zPK,zPK] at h1 h2 ⊢;refine⟨h1.1,h1.2.1,?_⟩;have g1:=h1.2.2;have g2:=h2.2.2;rw[hk];split at g1
  ·rename_i e1 _ _ e3 _ l3 q1 q2;rw[q1] at g2;split at g2
   ·rename_i e4 _ _ e5 _ l5 q3 q4;cases q3;rw[q4,q2];simp only;rw[zPK] at g1 g2 ⊢;rw[<-zPL g2.1];exact g1
   ·cases g2
  ·cases g1
 have hw2:qB (cO q.d (svL q.ts y) (blank q.d 0 as)).2=qB (b'++c'):=by
  rw[qPK (r2:=zGC)];exact (qOQ (m:=svL q.ts y) s1 hde (WkP.refl _)).2
 obtain⟨n1,n2,n3,_,_,n6⟩:=u6 kok (qJ ko ha) zMU
 obtain⟨_,_,hsub⟩:=qR0 (sh:=q.sh) ho1 kok s2 s3 hw2 zMU rfl s5 hsb (fun k o hk1 hk2 hl=>by
  obtain⟨t1,t2⟩:=aU hl;rcases zQR.1 t1 with q1 | q1
  ·exact absurd q1 hk2
  ·obtain⟨p,hp,rfl⟩:=zQB.1 q1;obtain⟨w5,u1⟩:=qO4 r7 hp;obtain⟨w6,u2⟩:=qO4 s7 hp;rw[u1] at t2;cases t2
   rw[zN u2];rfl)
 have hfz:=Fz.drop x1 (qC3 hsub);have v3:VR P Z3 o.H (own m3' (qC hh.l)) (.tup []) u:=qE8 v2 rfl _ _ _;refine⟨he,u,v1,Z3,m3',.tup [],qC hh.l,hfz.hp,v3,w3.trans (c1.trans (x3.trans hfz.step)),?_,.tup [],hh,by simp[SV.enc,qB],rfl,⟨ko.trans n1,n2,by simp[SV.ok,okL]⟩,hK⟩;have hkr:=w4.trans (d1.trans (x4.trans (hfz.kr (inP q.nm))));intro k b0 ob0 hk;rcases hkr k b0 ob0 hk with h1 | h1 | h1
 ·exact .inl h1
 ·exact .inr (.inl h1)
 ·refine .inr (.inr ?_);obtain⟨hk1,_⟩:=vW hk;rw[vJ] at hk1;obtain⟨o2,hk2,_⟩:=zPV.1 hk1;have h1:q.nm.p k=true:=h1
  have hnb:k ∉ q.bs:=fun hm=>by
   have:=zPN.1 hbs k hm;rw[h1] at this;cases this
  by_cases hko:k∈q.os.map (·.1)
  ·obtain⟨p,hp,rfl⟩:=zQB.1 hko;have:=zPN.1 hos p hp;rw[zQN,h1] at this;rcases this with q | q
   ·exact q
   ·cases q
  ·have hkb:k ∉ q.sh.b.map (·.1):=fun hm=>hnb (zQW _ hm)
   rw[n6 k hko hkb] at hk2;exact absurd (aU hk2).1 hnb
def qDQ {as:List Ty}(S:(TyL as->Option (TyL as))->TyL as->Option (TyL as)):Nat->TyL as->Option (TyL as)
 | 0,_=>none
 | n+1,x=>S (qDQ S n) x
end
end Go.Sv
namespace Go.Sv
open Go.Idl
noncomputable section
variable [Gc]
variable [Frs]
variable {P:Program}{G:Nat->Bool}{good:FuncId->Bool}{T:zT}{IT:List (FuncId×zGS)}
abbrev qT3 [h:Hnd](P:Program)(q:RT)(F:TyL q.ts->Option (TyL q.ts)):Hnd:=⟨recC P q F h.ci⟩
def zFW [Hnd][Yl](P:Program)(G:Nat->Bool)(T:zT)(IT:List (FuncId×zGS))(q:RT)(ans:Ans)(an:An)(fn:Func)(F:TyL q.ts->Option (TyL q.ts))(s:TyL q.ts):Option (TyL q.ts) :=
 zDJ P G T IT q (@ciN _ _ _ (qT3 P q F) P G T IT ans 3) an fn s
theorem qPW [Hnd][zG1 P G][zGT P G](L:Lib P good G T IT)(q:RT)(ans:Ans)(an:An)(fn:Func)(S:(TyL q.ts->Option (TyL q.ts))->TyL q.ts->Option (TyL q.ts))(hfn:P.funcs[q.g]?=some fn)(hc:(qY2 P q fn&&q.zMT)=true)
 (hS:(fun (y:Yl) F x=>@zFW _ _ _ y P G T IT q ans an fn F x)=fun (_:Yl) F x=>S F x):∀ n,@zG1 _ P G (qT3 P q (qDQ S n))
 | 0=>by
   refine @zG1.mk _ P G (qT3 P q (qDQ S 0)) fun {y}=>?_
   obtain⟨nat,tab,s,ht,hit⟩:=L;rw[zPK] at hc;exact qW7 s ht hit (CI':=Hnd.ci) zG1.ok zG1.ok (an:=an) hfn hc.1 hc.2 fun x y h=>by cases h
 | n+1=>by
   have ih:=qPW L q ans an fn S hfn hc hS n;refine @zG1.mk _ P G (qT3 P q (qDQ S (n+1))) fun {y}=>?_
   obtain⟨nat,tab,s,ht,hit⟩:=L;rw[zPK] at hc;refine qW7 s ht hit (CI':=@ciN _ _ _ (qT3 P q (qDQ S n)) P G T IT ans 3) zG1.ok (@qFO _ _ _ _ _ _ _ _ _ _ (qT3 P q (qDQ S n)) ih _ s ht hit ans 3) (an:=an) hfn hc.1 hc.2 fun x z h=>?_
   have h2:=congrFun (congrFun (congrFun hS y) (qDQ S n)) x;rw[<-h];exact h2
end
end Go.Sv
