/- A symbolic run, part two. Conditions: none. -/
import Derived.Test.YtpnecffgnjijjaaGreatDoorSvA
set_option linter.all false
namespace Go.Sv
open Go.Idl
variable {c i s:Nat}{env:List SV}{h:SH}{ob:PO}{ph ph':PHp}{ty:TypeId}{v:SV}{x y:PV}
noncomputable section
variable [Gc]
variable [Yl]
variable {P:Program}{R:Type}{r:R}{G:Nat->Bool}{nm:Nm}{rd:Bool}
def Wk (P:Program)(nm:Nm)(pe:List PV)(ph:PHp)(pe':List PV)(ph':PHp):Prop :=
 ∀ (Z:Nat->Prop) (H:IH) (m:Nat->Nat) (vs:List Value),Hp P Z H (own m ph)->VRL P Z H (own m ph) pe vs ->
  ∃ Z' m',Hp P Z' H (own m' ph')∧VRL P Z' H (own m' ph') pe' vs∧Step Z H (own m ph) Z' H (own m' ph')∧KR (inP nm) (own m ph) (own m' ph')
omit [Yl] in
theorem Wk.refl (pe:List PV)(ph:PHp):Wk P nm pe ph pe ph:=fun Z H m vs hp hv=>⟨Z,m,hp,hv,.refl _ _ _,.refl _ _⟩
omit [Yl] in
theorem Wk.trans {a b c:List PV}{p q s:PHp}(x:Wk P nm a p b q)(y:Wk P nm b q c s):Wk P nm a p c s:=fun Z H m vs hp hv=>by
 obtain⟨Z1,m1,a1,a2,a3,a4⟩:=x Z H m vs hp hv;obtain⟨Z2,m2,b1,b2,b3,b4⟩:=y Z1 H m1 vs a1 a2;exact⟨Z2,m2,b1,b2,a3.trans b3,a4.trans b4⟩
omit [Yl] in
theorem Wk.drop {a b:List PV}{p q:PHp}(hw:WkP a b)(hs:qBO q p):Wk P nm a p b q:=fun Z H m vs hp hv=>by
 have hf:=Fz.drop hp hs;exact⟨Z,m,hf.hp,hw.rel (hf.vrl hv),hf.step,hf.kr _⟩
omit [Yl] in
theorem qPC:∀ {l m:List PV},l.length=m.length->(∀ i,zJ m i=zJ l i∨zJ m i=some .unk)->WkP l m
 | [],[],_,_=>.nil
 | [],_::_,h,_=>by cases h
 | _::_,[],h,_=>by cases h
 | x::l,y::m,h,hi=>by
   have ih:=qPC (l:=l) (m:=m) (by simpa using h) fun i=>hi (i+1)
   rcases hi 0 with q | q
   ·have q:some y=some x:=q;cases q;exact .same ih
   ·have q:some y=some PV.unk:=q;cases q;exact .any ih
def fzs (P:Program):List (Nat×TypeId)->List SV->SH->(List SV->SH->zE9 R)->zE9 R
 | [],env,h,K=>K env h
 | (i,ty)::l,env,h,K=>match zJ env i,qED P 8 ty with
   | some v,some t=>(match q7C P ty t v h with
     | some (x,h')=>fzs P l (yQ env i (t.sv x)) h' K
     | none=>.fail)
   | _,_=>.fail
def xJ (P:Program)(w:List Nat)(env:List SV)(h:SH)(env':List SV)(h':SH):Prop :=
 okL h' env'∧OkH P h'∧Keep h h'∧(∀ i,i ∉ w->zJ (qB env') i=zJ (qB env) i)∧env'.length=env.length
theorem xJ.trans {w w2:List Nat}{env zFG zFS:List SV}{h h1 h2:SH}(a:xJ P w env h zFG h1)(b:xJ P w2 zFG h1 zFS h2):xJ P (w++w2) env h zFS h2 :=
 ⟨b.1,b.2.1,a.2.2.1.trans b.2.2.1,fun i hi=>by
   rw[zNM,not_or] at hi
   exact (b.2.2.2.1 i hi.2).trans (a.2.2.2.1 i hi.1),b.2.2.2.2.trans a.2.2.2.2⟩
theorem xJ.refl {env:List SV}{h:SH}(ho:OkH P h)(he:okL h env):xJ P [] env h env h:=⟨he,ho,.refl _,fun _ _=>rfl,rfl⟩
theorem xJ.up {w w2:List Nat}{zFG:List SV}{h1:SH}(a:xJ P w env h zFG h1)(hw:∀ i∈w,i∈w2):xJ P w2 env h zFG h1 :=
 ⟨a.1,a.2.1,a.2.2.1,fun i hi=>a.2.2.2.1 i fun q=>hi (hw i q),a.2.2.2.2⟩
theorem pI {j:Nat}(h:i≠j):zJ (qB (yQ env i v)) j=zJ (qB env) j:=by
 rw[xW,qV,qG,qG,zNU,if_neg h]
theorem zAB {h':SH}(hv:zJ env i=some v)(hf:fzP P (qD h.l) v.enc=some (y,qD h'.l)):Wk P nm (qB env) (qD h.l) (yQ (qB env) i (rt1 P ty y)) (qD h'.l):=by
 intro Z H m vs hp hr
 have hi:(qB env)[i]?=some v.enc:=by
  rw[qG] at hv;rw[zD,zNC,hv];rfl
 obtain⟨u,hu,hr2⟩:=hr.get hi;obtain⟨Z',h1,h2⟩:=qJ2 hp hr2 hf;exact⟨Z',m,h1.hp,(h1.vrl hr).slot hu (qE3 (bO h2 (qO2 hf))),h1.step,h1.kr _⟩
theorem q3K:∀ {l:List (Nat×TypeId)} {env:List SV} {h:SH} {K:List SV->SH->zE9 R},OkH P h->okL h env->(fzs P l env h K).run=some r ->
 ∃ env' h',Wk P nm (qB env) (qD h.l) (qB env') (qD h'.l)∧xJ P (l.map (·.1)) env h env' h'∧(K env' h').run=some r
 | [],env,h,K,ho,he,e=>⟨env,h,.refl _ _,.refl ho he,e⟩
 | (i,ty)::l,env,h,K,ho,he,e=>by
   unfold fzs at e;split at e
   ·rename_i v t hv ht;split at e
    ·rename_i x h' hd;obtain⟨y,a1,a2,a3,a4,_⟩:=qCL ho (eZ he hv) hd;have hw:=zAB (nm:=nm) (ty:=ty) hv a1;have hs:yQ (qB env) i (rt1 P ty y)=qB (yQ env i (t.sv x)):=by rw[xW,nC,a2]
     rw[hs] at hw;obtain⟨env',h2,b1,b2,b3⟩:=q3K (l:=l) a4 (y9 (t:=i) (v:=t.sv x) (qI a3 he) (qKV t x)) e;refine⟨env',h2,hw.trans b1,?_,b3⟩
     have h0:xJ P [i] env h (yQ env i (t.sv x)) h':=⟨y9 (qI a3 he) (qKV t x),a4,a3,fun j hj=>pI fun q=>hj (by rw[q];exact zQA j),jH _ _ _⟩
     exact h0.trans b2
    ·cases e
   ·cases e
omit [Yl] in
theorem Wk.zL6 {env:List PV}(i k:Nat)(el:TypeId)(hi:zJ env i=some (fvv (.slice none 0 0)))(hs:szT P el=some (s+1))(hf:fresh nm k env ph=true):Wk P nm env ph (yQ env i (.own k 0 0 0)) ((k,⟨el,true,[]⟩)::ph):=by
 intro Z H m zFA hp he;rw[qG] at hi;obtain⟨v,hv,hr⟩:=he.get hi;have hvn:v=.slice none 0 0:=yK hr rfl;subst hvn;obtain⟨f1,f2,f3⟩:=q80 nm hf;have hnew:own m ((k,⟨el,true,[]⟩)::ph) k=some (m k,⟨el,true,[]⟩):=by simp[own,qA]
 have hold:∀ j,j≠k->own m ((k,⟨el,true,[]⟩)::ph) j=own m ph j:=fun j hj=>by
  unfold own;rw[yG hj]
 have hkr:KR (fun j=>j==k) (own m ph) (own m ((k,⟨el,true,[]⟩)::ph)):=fun j b ob hk=>by
  by_cases hj:j=k
  ·exact .inr (.inr (by simp[hj]))
  ·rw[hold j hj] at hk;exact .inl ⟨ob,hk,rfl,rfl,rfl⟩
 have mono:∀ {xs:List PV} {vs:List Value},VRL P Z H (own m ph) xs vs->zZ k xs=true->VRL P Z H (own m ((k,⟨el,true,[]⟩)::ph)) xs vs:=fun h hn=>h.mono (fun _ h=>h) (zM0 _) (fun _ _ _=>rfl) hkr fun j hj=>by
  have:j=k:=by simpa using hj
  subst this;exact hn
 have hp':Hp P Z H (own m ((k,⟨el,true,[]⟩)::ph)):=by
  refine⟨hp.zlt,fun j b ob hk=>?_,fun j j' b b' ob ob' h1 h2 r1 r2 hne=>?_,hp.gl⟩
  ·by_cases hj:j=k
   ·subst hj;rw[hnew] at hk;cases hk;exact .inl ⟨rfl,rfl⟩
   ·rw[hold j hj] at hk
    rcases hp.obj j b ob hk with h | ⟨a1,a2,a3,a4⟩
    ·exact .inl h
    ·exact .inr ⟨a1,a2,a3,a4.mono rfl fun _ a5=>mono a5 (jX f3 (vL hk).1)⟩
  ·by_cases hj:j=k
   ·subst hj;rw[hnew] at h1;cases h1;exact absurd ⟨rfl,rfl⟩ r1
   ·by_cases hj':j'=k
    ·subst hj';rw[hnew] at h2;cases h2;exact absurd ⟨rfl,rfl⟩ r2
    ·rw[hold j hj] at h1;rw[hold j' hj'] at h2;exact hp.inj j j' b b' ob ob' h1 h2 r1 r2 hne
 have hown:VR P Z H (own m ((k,⟨el,true,[]⟩)::ph)) (.own k 0 0 0) (.slice none 0 0):=.own rfl fun b ob hM=>by
  rw[hnew] at hM;cases hM;exact⟨s+1,hs,by omega,by simp,fun _=>.inl ⟨rfl,rfl,rfl,rfl,rfl⟩⟩
 have hst:Step Z H (own m ph) Z H (own m ((k,⟨el,true,[]⟩)::ph)):=⟨zM0 _,rfl,fun _ h=>h,fun _ _ _=>rfl,fun b h _=>.inl h,fun b ⟨j,ob,h1,h2⟩ _=>by
  by_cases hj:j=k
  ·subst hj;rw[hnew] at h1;cases h1;exact absurd ⟨rfl,rfl⟩ h2
  ·rw[hold j hj] at h1;exact⟨j,ob,h1,h2⟩⟩
 have hup:KR (inP nm) (own m ph) (own m ((k,⟨el,true,[]⟩)::ph)):=hkr.up fun j hj=>by
  have e:j=k:=by simpa using hj
  rw[e];exact f1
 exact⟨Z,m,hp',(mono he f2).slot hv hown,hst,hup⟩
omit [Yl] in
theorem Wk.zK4 {env:List PV}(kb i k:Nat)(el:TypeId)(hk:qA kb ph=some ob)(hsp:spec P ob.el=false)(hgr:ob.gr=false)(hi:zJ ob.cs i=some (fvv (.slice none 0 0)))(hs:szT P el=some (s+1))(hf:fresh nm k env ph=true)(hne:k≠kb) :
 Wk P nm env ph env ((k,⟨el,true,[]⟩)::xL kb ⟨ob.el,false,yQ ob.cs i (.own k 0 0 0)⟩ ph):=by
 intro Z H m zFA hp he;obtain⟨f1,f2,f3⟩:=q80 nm hf;generalize zL7:(k,(⟨el,true,[]⟩:PO))::xL kb ⟨ob.el,false,yQ ob.cs i (.own k 0 0 0)⟩ ph=ph'
 have hM':∀ j,own m ph' j=if j=k then some (m k,⟨el,true,[]⟩) else if j=kb then some (m kb,⟨ob.el,false,yQ ob.cs i (.own k 0 0 0)⟩) else own m ph j:=fun j=>by
  subst zL7;unfold own;by_cases h1:j=k
  ·subst h1;simp[qA]
  ·rw[if_neg h1,yG h1,zA];by_cases h2:j=kb
   ·subst h2;rw[if_pos ⟨rfl,by rw[hk];rfl⟩,if_pos rfl];rfl
   ·rw[if_neg (fun h=>h2 h.1),if_neg h2]
 have hnew:own m ph' k=some (m k,⟨el,true,[]⟩):=by rw[hM',if_pos rfl]
 have zGS:own m ph' kb=some (m kb,⟨ob.el,false,yQ ob.cs i (.own k 0 0 0)⟩):=by rw[hM',if_neg hne.symm,if_pos rfl]
 have hold:∀ j,j≠k->j≠kb->own m ph' j=own m ph j:=fun j h1 h2=>by rw[hM',if_neg h1,if_neg h2]
 have hkM:own m ph kb=some (m kb,ob):=qM hk
 have hkr:KR (fun j=>j==k) (own m ph) (own m ph'):=fun j b o hj=>by
  by_cases h1:j=k
  ·exact .inr (.inr (by simp[h1]))
  ·by_cases h2:j=kb
   ·subst h2;rw[zGS] at hj;cases hj;exact .inl ⟨ob,hkM,by simp[qV],rfl,hgr⟩
   ·rw[hold j h1 h2] at hj;exact .inl ⟨o,hj,rfl,rfl,rfl⟩
 have mono:∀ {xs:List PV} {vs:List Value},VRL P Z H (own m ph) xs vs->zZ k xs=true->VRL P Z H (own m ph') xs vs:=fun h hn=>h.mono (fun _ h=>h) (zM0 _) (fun _ _ _=>rfl) hkr fun j hj=>by
  have:j=k:=by simpa using hj
  subst this;exact hn
 have hown:VR P Z H (own m ph') (.own k 0 0 0) (.slice none 0 0):=.own rfl fun b o hM=>by
  rw[hnew] at hM;cases hM;exact⟨s+1,hs,by omega,by simp,fun _=>.inl ⟨rfl,rfl,rfl,rfl,rfl⟩⟩
 have zFY:¬ (ob.gr=true∧ob.cs=[]):=fun h=>by rw[hgr] at h;cases h.1
 have hp':Hp P Z H (own m ph'):=by
  refine⟨hp.zlt,fun j b o hj=>?_,fun j j' b b' o o' h1 h2 r1 r2 hn=>?_,hp.gl⟩
  ·by_cases h1:j=k
   ·subst h1;rw[hnew] at hj;cases hj;exact .inl ⟨rfl,rfl⟩
   ·by_cases h2:j=kb
    ·subst h2;rw[zGS] at hj;cases hj
     rcases hp.obj j _ ob hkM with h | ⟨a1,a2,a3,⟨_,vs,a4,a5,a6⟩ | ⟨hs2,_⟩⟩
     rotate_right 1
     ·rw[hsp] at hs2;cases hs2
     ·exact absurd h zFY
     ·have hv:=mono a5 (jX f3 hk);obtain⟨v,hv1,hv2⟩:=a5.get (i:=i) (by rw[<-qG];exact hi);have:v=.slice none 0 0:=yK hv2 rfl;subst this;refine .inr ⟨a1,a2,a3,.inl ⟨hsp,vs,?_,hv.slot hv1 hown,a6⟩⟩;rw[a4,hgr]
    ·rw[hold j h1 h2] at hj
     rcases hp.obj j b o hj with h | ⟨a1,a2,a3,a4⟩
     ·exact .inl h
     ·exact .inr ⟨a1,a2,a3,a4.mono rfl fun _ a5=>mono a5 (jX f3 (vL hj).1)⟩
  ·have tr:∀ {j b o},own m ph' j=some (b,o)->¬ (o.gr=true∧o.cs=[])->∃ o2,own m ph j=some (b,o2)∧¬ (o2.gr=true∧o2.cs=[]):=fun {j b o} hj hr=>by
    by_cases h1:j=k
    ·subst h1;rw[hnew] at hj;cases hj;exact absurd ⟨rfl,rfl⟩ hr
    ·by_cases h2:j=kb
     ·subst h2;rw[zGS] at hj;cases hj;exact⟨ob,hkM,zFY⟩
     ·rw[hold j h1 h2] at hj;exact⟨o,hj,hr⟩
   obtain⟨o2,q1,q2⟩:=tr h1 r1;obtain⟨o3,q3,q4⟩:=tr h2 r2;exact hp.inj j j' b b' o2 o3 q1 q3 q2 q4 hn
 have hst:Step Z H (own m ph) Z H (own m ph'):=⟨zM0 _,rfl,fun _ h=>h,fun _ _ _=>rfl,fun b h _=>.inl h,fun b ⟨j,o,h1,h2⟩ _=>by
  by_cases e1:j=k
  ·subst e1;rw[hnew] at h1;cases h1;exact absurd ⟨rfl,rfl⟩ h2
  ·by_cases e2:j=kb
   ·subst e2;rw[zGS] at h1;cases h1;exact⟨j,ob,hkM,zFY⟩
   ·rw[hold j e1 e2] at h1;exact⟨j,o,h1,h2⟩⟩
 exact⟨Z,m,hp',mono he f2,hst,hkr.up fun j hj=>by
  have e:j=k:=by simpa using hj
  rw[e];exact f1⟩
def qEV:SV->Bool
 | .c (.slice none 0 0)=>true
 | _=>false
theorem qD5 (e:qEV v=true):v.enc=fvv (.slice none 0 0):=by
 unfold qEV at e;split at e
 ·simp[SV.enc]
 ·cases e
def qQ6 (P:Program)(nm:Nm):List (Nat×TypeId)->List SV->SH->(List SV->SH->zE9 R)->zE9 R
 | [],env,h,K=>K env h
 | (i,el)::l,env,h,K=>match zJ env i with
   | some v=>cond (qEV v) (match szT P el,qED P 8 el with
     | some (s+1),some t=>cond (Nat.beq t.w (s+1)&&qEL nm (nm.b+i) env h) (qQ6 P nm l (yQ env i (.own (nm.b+i) h.next 0)) (h.new (nm.b+i) fun v=>.list el true v v t []) K) .fail
     | _,_=>.fail) (qQ6 P nm l env h K)
   | none=>.fail
theorem tK:∀ {l:List (Nat×TypeId)} {env:List SV} {h:SH} {K:List SV->SH->zE9 R},OkH P h->okL h env->(qQ6 P nm l env h K).run=some r ->
 ∃ env' h',Wk P nm (qB env) (qD h.l) (qB env') (qD h'.l)∧xJ P (l.map (·.1)) env h env' h'∧(K env' h').run=some r
 | [],env,h,K,ho,he,e=>⟨env,h,.refl _ _,.refl ho he,e⟩
 | (i,el)::l,env,h,K,ho,he,e=>by
   unfold qQ6 at e;split at e
   ·rename_i v hv
    cases hn:qEV v with
    | false =>
      rw[hn] at e;obtain⟨env',h2,b1,b2,b3⟩:=tK (l:=l) ho he e;exact⟨env',h2,b1,b2.up fun j hj=>zM3 _ hj,b3⟩
    | true =>
      rw[hn] at e;simp only[cond_true] at e;split at e
      ·rename_i s t hs ht;obtain⟨c,e1⟩:=qF e;rw[zMY] at c;have hw:t.w=s+1:=zMZ c.1;have hn2:=yN (k:=nm.b+i) (f:=fun v=>.list el true v v t []) ho ⟨rfl,rfl,by rw[hs,hw],by omega⟩
       have hfr:fresh nm (nm.b+i) (qB env) (qD h.l)=true:=by
        have c2:=c.2;unfold qEL at c2;simp only[zMY] at c2;unfold fresh;rw[c2.1,c2.2.1,jJ c2.2.2];rfl
       have hwk:Wk P nm (qB env) (qD h.l) (qB (yQ env i (.own (nm.b+i) h.next 0))) (qD (h.new (nm.b+i) fun v=>.list el true v v t []).l):=by
        have:=Wk.zL6 (P:=P) (nm:=nm) (ph:=qD h.l) i (nm.b+i) el (by rw[qU,hv,zNE,qD5 hn]) hs hfr;rw[xW];simpa [SV.enc,SH.new,qD,SO.enc] using this
       have hok:(SV.own (nm.b+i) h.next 0).ok (h.new (nm.b+i) fun v=>.list el true v v t []):=jK (xs:=([]:List t.sem)) rfl;obtain⟨env',h2,b1,b2,b3⟩:=tK (l:=l) hn2.2 (y9 (t:=i) (qI hn2.1 he) hok) e1;refine⟨env',h2,hwk.trans b1,?_,b3⟩
       have h0:xJ P [i] env h (yQ env i (.own (nm.b+i) h.next 0)) (h.new (nm.b+i) fun v=>.list el true v v t []):=⟨y9 (qI hn2.1 he) hok,hn2.2,hn2.1,fun j hj=>pI fun q=>hj (by rw[q];exact zQA j),jH _ _ _⟩
       exact h0.trans b2
      ·cases e
   ·cases e
theorem Hp.rel {Z:Nat->Prop}{H:IH}{m:Nat->Nat}{k L:Nat}(hp:Hp P Z H (own m ph))(hk:qA k ph=some ob)(h1:ob.el=1000000001)(h2:ob.gr=false)(h3:spec P 1000000001=true)(hL:qA L ph'=some ob)
 (hs:∀ j o,j≠L->qA j ph'=some o->j≠k∧qA j ph=some o∧zZ L o.cs=true) :
 Hp P Z H (own (fun j=>if j=L then m k else m j) ph')∧Step Z H (own m ph) Z H (own (fun j=>if j=L then m k else m j) ph')∧KR (fun j=>j==L) (own m ph) (own (fun j=>if j=L then m k else m j) ph'):=by
 have zFY:Go.Idl.real ob:=fun h=>by rw[h2] at h;cases h.1
 have hnew:own (fun j=>if j=L then m k else m j) ph' L=some (m k,ob):=by unfold own;rw[hL];simp
 have hold:∀ {j b o},j≠L->own (fun j=>if j=L then m k else m j) ph' j=some (b,o)->j≠k∧own m ph j=some (b,o)∧zZ L o.cs=true:=fun {j b o} hj h=>by
  obtain⟨a1,a2⟩:=vL h;obtain⟨b1,b2,b3⟩:=hs j o hj a1;simp only[if_neg hj] at a2;exact⟨b1,by rw[a2];exact qM b2,b3⟩
 have hkr:KR (fun j=>j==L) (own m ph) (own (fun j=>if j=L then m k else m j) ph'):=fun j b' ob' h=>by
  by_cases hj:j=L
  ·exact .inr (.inr (by simp[hj]))
  ·exact .inl ⟨ob',(hold hj h).2.1,rfl,rfl,rfl⟩
 have hown:∀ {j b o},own (fun j=>if j=L then m k else m j) ph' j=some (b,o)->∃ j',own m ph j'=some (b,o)∧((j=L∧j'=k)∨(j≠L∧j'=j∧j≠k)):=fun {j b o} h=>by
  by_cases hj:j=L
  ·subst hj;rw[hnew] at h;cases h;exact⟨k,qM hk,.inl ⟨rfl,rfl⟩⟩
  ·exact⟨j,(hold hj h).2.1,.inr ⟨hj,rfl,(hold hj h).1⟩⟩
 refine⟨⟨hp.zlt,fun j b o hj=>?_,fun j j' b b' o o' e1 e2 r1 r2 hne=>?_,hp.gl⟩,⟨zM0 _,rfl,fun _ h=>h,fun _ _ _=>rfl,fun _ h _=>.inl h,fun b ⟨j,o,hj,hr⟩ _=>?_⟩,hkr⟩
 ·by_cases hjL:j=L
  ·subst hjL;rw[hnew] at hj;cases hj
   rcases hp.obj k (m k) ob (qM hk) with q | ⟨x1,x2,x3,x4⟩
   ·exact absurd q zFY
   ·refine .inr ⟨x1,x2,x3,?_⟩
    rcases x4 with ⟨y,_⟩ | ⟨y1,y2 | ⟨q,_⟩⟩
    ·rw[h1,h3] at y;cases y
    ·exact .inr ⟨y1,.inl y2⟩
    ·rw[h1] at q;cases q
  ·obtain⟨a1,a2,a3⟩:=hold hjL hj
   rcases hp.obj j b o a2 with q | ⟨x1,x2,x3,x4⟩
   ·exact .inl q
   ·exact .inr ⟨x1,x2,x3,x4.mono rfl fun vs hv=>hv.mono (fun _ h=>h) (zM0 _) (fun _ _ _=>rfl) hkr fun i hi=>by
     have:i=L:=by simpa using hi
     rw[this];exact a3⟩
 ·obtain⟨i1,q1,c1⟩:=hown e1;obtain⟨i2,q2,c2⟩:=hown e2;refine hp.inj i1 i2 b b' o o' q1 q2 r1 r2 fun e=>?_
  rcases c1 with ⟨rfl,rfl⟩ | ⟨c1,rfl,c1'⟩ <;> rcases c2 with ⟨rfl,rfl⟩ | ⟨c2,rfl,c2'⟩
  ·exact hne rfl
  ·exact c2' e.symm
  ·exact c1' e
  ·exact hne e
 ·obtain⟨i,q,_⟩:=hown hj;exact⟨i,o,q,hr⟩
omit [Yl] in
theorem qOP {j:Nat}{o:SO}:∀ {l:List (Nat×SO)},slk j l=some o->(j,o)∈l
 | (i,p)::l,h=>by
   have h:cond (j==i) (some p) (slk j l)=some o:=h
   cases hj:j==i with
   | true =>
     rw[hj] at h;cases h;have:j=i:=by simpa using hj
     subst this;simp
   | false =>
     rw[hj] at h;exact zM3 _ (qOP h)
def qYW (L:Nat)(l:List (Nat×SO)):List Nat:=(l.filter fun p=>!qD8 L [p]).map (·.1)
def qXI:List Nat->List (Nat×SO)->List (Nat×SO)
 | [],l=>l
 | k::ks,l=>sdl k (qXI ks l)
omit [Yl] in
theorem bD {k:Nat}:∀ (l:List (Nat×SO)),slk k (sdl k l)=none
 | []=>rfl
 | (i,p)::l=>by
   show slk k (cond (k==i) (sdl k l) ((i,p)::sdl k l))=none
   cases h:k==i with
   | true=>exact bD l
   | false =>
     show cond (k==i) (some p) (slk k (sdl k l))=none;rw[h];exact bD l
omit [Yl] in
theorem qP7 {j:Nat}{o:SO}:∀ {ls:List Nat} {l:List (Nat×SO)},slk j (qXI ls l)=some o->j ∉ ls∧slk j l=some o
 | [],l,h=>⟨by simp,h⟩
 | k::ks,l,h=>by
   have h:slk j (sdl k (qXI ks l))=some o:=h;by_cases hj:j=k
   ·subst hj;rw[bD] at h;cases h
   ·rw[kM hj] at h;obtain⟨h1,h2⟩:=qP7 h;exact⟨by simp[hj,h1],h2⟩
def zB8 (P:Program)(nm:Nm)(i:Nat)(env:List SV)(h:SH)(K:List SV->SH->zE9 R):zE9 R:=match zJ env i with
 | some (.mp k)=>(match slk k h.l with
   | some (.spc _ (.map es))=>cond (inP nm (nm.b+i)&&(zZ (nm.b+i) (qB (yQ env i .unk))&&spec P 1000000001))
      (K (yQ env i (.mp (nm.b+i))) ⟨h.next+1,(nm.b+i,.spc h.next (.map es))::qXI (k::(nm.b+i)::qYW (nm.b+i) h.l) h.l⟩) .fail
   | _=>.fail)
 | _=>.fail
theorem q53 {K:List SV->SH->zE9 R}(ho:OkH P h)(he:okL h env)(e:(zB8 P nm i env h K).run=some r) :
 ∃ env' h',Wk P nm (qB env) (qD h.l) (qB env') (qD h'.l)∧xJ P [i] env h env' h'∧(K env' h').run=some r:=by
 unfold zB8 at e;split at e
 case h_2=>cases e
 rename_i k hi;split at e
 case h_2=>cases e
 rename_i v es hk;obtain⟨hc,e1⟩:=qF e;simp only[zMY] at hc;obtain⟨hin,hno,hsp⟩:=hc
 have hlk:∀ {j:Nat} {o:SO},j≠nm.b+i->slk j ((nm.b+i,SO.spc h.next (.map es))::qXI (k::(nm.b+i)::qYW (nm.b+i) h.l) h.l)=some o->j≠k∧slk j h.l=some o∧zZ (nm.b+i) o.enc.cs=true:=fun {j o} hj h1=>by
  rw[yC hj] at h1;obtain⟨a1,a2⟩:=qP7 h1;simp only[zNF,not_or] at a1;refine⟨a1.1,a2,?_⟩;have hm:=qOP a2
  have:qD8 (nm.b+i) [(j,o)]=true:=by
   cases hb:qD8 (nm.b+i) [(j,o)] with
   | true=>rfl
   | false =>
     refine absurd ?_ a1.2.2;unfold qYW;exact zNO.2 ⟨(j,o),zQ9.2 ⟨hm,by rw[hb];rfl⟩,rfl⟩
  have h2:=jJ this;have h2:(zZ (nm.b+i) o.enc.cs&&gZ (nm.b+i) [])=true:=h2;rw[zMY] at h2;exact h2.1
 have hself:slk (nm.b+i) ((nm.b+i,SO.spc h.next (.map es))::qXI (k::(nm.b+i)::qYW (nm.b+i) h.l) h.l)=some (.spc h.next (.map es)):=by
  show cond (nm.b+i==nm.b+i) _ _=_;simp
 have kp:Keep h ⟨h.next+1,(nm.b+i,.spc h.next (.map es))::qXI (k::(nm.b+i)::qYW (nm.b+i) h.l) h.l⟩:=by
  refine⟨zQK _,fun j o hj hw=>?_,fun j el gr g w t xs hj hg=>?_⟩
  ·by_cases hjL:j=nm.b+i
   ·subst hjL;rw[hself] at hj;cases hj;exact absurd hw (zQB _)
   ·exact (hlk hjL hj).2.1
  ·by_cases hjL:j=nm.b+i
   ·subst hjL;rw[hself] at hj;cases hj
   ·exact⟨w,xs,(hlk hjL hj).2.1,rfl⟩
 have ok:OkH P ⟨h.next+1,(nm.b+i,.spc h.next (.map es))::qXI (k::(nm.b+i)::qYW (nm.b+i) h.l) h.l⟩:=by
  refine⟨fun j o hj=>?_,fun j el w l hj=>?_,fun j el gr g w t xs hj=>?_⟩
  ·by_cases hjL:j=nm.b+i
   ·subst hjL;rw[hself] at hj;cases hj;exact zNV _
   ·exact zOM (ho.ver j o (hlk hjL hj).2.1)
  ·by_cases hjL:j=nm.b+i
   ·subst hjL;rw[hself] at hj;cases hj
   ·exact qI kp (ho.cells j el w l (hlk hjL hj).2.1)
  ·by_cases hjL:j=nm.b+i
   ·subst hjL;rw[hself] at hj;cases hj
   ·have:=ho.list j el gr g w t xs (hlk hjL hj).2.1;exact⟨zOM this.1,this.2⟩
 refine⟨_,_,fun Z H m vs hp hv=>?_,⟨y9 (qI kp he) (by simp[SV.ok]),ok,kp,fun j hj=>?_,by rw[qV,zOB]⟩,e1⟩
 ·obtain⟨r1,r2,r3⟩:=Hp.rel (L:=nm.b+i) (ph':=qD ((nm.b+i,SO.spc h.next (.map es))::qXI (k::(nm.b+i)::qYW (nm.b+i) h.l) h.l)) (ob:=(SpO.map es).enc) hp (zM hk) rfl rfl hsp (zM hself) fun j o hj hl=>by
   rw[vC] at hl
   cases hq:slk j ((nm.b+i,SO.spc h.next (.map es))::qXI (k::(nm.b+i)::qYW (nm.b+i) h.l) h.l) with
   | none=>rw[hq] at hl;cases hl
   | some o' =>
     rw[hq] at hl;cases hl;obtain⟨a1,a2,a3⟩:=hlk hj hq;exact⟨a1,zM a2,a3⟩
  refine⟨Z,_,r1,⟨?_,fun j x u hx hu=>?_⟩,r2,r3.up fun j hj=>by
   have:j=nm.b+i:=by simpa using hj
   rw[this];exact hin⟩
  ·rw[qP,qV,zOB,<-qP];exact hv.len
  ·rw[<-qG,qU,qV,qG,zNU] at hx;by_cases hji:i=j
   ·subst hji
    have hlt:i < env.length:=by
     rw[qG] at hi;exact (zM6.1 hi).1
    simp only[if_true,hlt,zNE,zM7] at hx;subst hx;have hv1:=hv.val i _ u (by rw[<-qG,qU,hi];rfl) hu;simp only[SV.enc] at hv1 ⊢
    cases hv1 with
    | mp g1 g2 =>
      obtain⟨_,rfl⟩:=g2 _ _ (qM (zM hk));refine q33 fun b' ob' hM=>?_
      have:own (fun j=>if j=nm.b+i then m k else m j) (qD ((nm.b+i,SO.spc h.next (.map es))::qXI (k::(nm.b+i)::qYW (nm.b+i) h.l) h.l)) (nm.b+i)=some (m k,(SpO.map es).enc):=by
       unfold own;rw[zM hself];simp[SO.enc]
      rw[this] at hM;cases hM;exact⟨rfl,rfl⟩
   ·rw[if_neg hji] at hx;have hx1:(qB env)[j]?=some x:=by rw[<-qG,qU,qG];exact hx
    refine (hv.val j x u hx1 hu).mono (fun _ h=>h) (zM0 _) (fun _ _ _=>rfl) r3 fun i' hi'=>?_
    have:i'=nm.b+i:=by simpa using hi'
    rw[this];refine vU hno (i:=j) ?_;rw[<-qG,qU,qV,qG,zNU,if_neg hji];exact hx
 ·have hji:¬ i=j:=fun h=>hj (by simp[h])
  rw[qU,qU,qV,qG,qG,zNU,if_neg hji]
theorem qS7 (ho:OkH P h)(he:okL h env):Wk P nm (qB env) (qD h.l) (qB (yQ env i .unk)) (qD h.l)∧xJ P [i] env h (yQ env i .unk) h:=by
 refine⟨Wk.drop (qPC (by rw[qP,qP,qV,zOB]) fun j=>?_) (qBO.refl _),y9 he (by simp[SV.ok]),ho,.refl _,fun j hj=>?_,by rw[qV,zOB]⟩
 ·rw[qU,qU,qV,qG,qG,zNU];by_cases hji:i=j
  ·subst hji;simp only[if_true];by_cases hlt:i < env.length
   ·simp only[hlt,if_true,zNE]
    right;simp[SV.enc]
   ·simp only[hlt,if_false]
    left
    rw[zOF (by omega)]
  ·rw[if_neg hji];exact .inl rfl
 ·have hji:¬ i=j:=fun h=>hj (by simp[h])
  rw[qU,qU,qV,qG,qG,zNU,if_neg hji]
omit [Yl] in
theorem qAF {f:PHp->PV->Option (FV×PHp)}(hf:∀ ph x y ph',f ph x=some (y,ph')->qBO ph' ph):∀ {l:List PV} {ph ph':PHp} {ys:List FV},sN f l ph=some (ys,ph')->qBO ph' ph
 | [],ph,ph',ys,h=>by cases h;exact .refl _
 | x::l,ph,ph',ys,h=>by
   unfold sN at h;split at h
   ·rename_i y ph1 h1;split at h
    ·rename_i zs ph2 h2;cases h;exact fun k ob q=>hf _ _ _ _ h1 k ob (qAF hf h2 k ob q)
    ·cases h
   ·cases h
omit [Yl] in
theorem qGQ:∀ (n:Nat) (ph:PHp) (x:PV) (y:FV) (ph':PHp),fz1 P n ph x=some (y,ph')->qBO ph' ph
 | 0,ph,x,y,ph',h=>by
   cases x with
   | f x =>
     have h:some (x,ph)=some (y,ph'):=h;cases h;exact .refl _
   | _ =>
     have h:(none:Option (FV×PHp))=some (y,ph'):=h;cases h
 | n+1,ph,x,y,ph',h=>by
   cases x with
   | f x =>
     have h:some (x,ph)=some (y,ph'):=h;cases h;exact .refl _
   | own k t o c =>
     unfold fz1 at h;split at h
     case h_2=>cases h
     split at h
     case h_2=>cases h
     obtain⟨_,h⟩:=nG h;split at h
     case h_2=>cases h
     rename_i hq;cases h
     exact fun j ob q=>by
      have q1:=qAF (qGQ n) hq j ob q;rw[yZ] at q1;split at q1
      ·cases q1
      ·exact q1
   | asl el k t =>
     unfold fz1 at h;split at h
     case h_2=>cases h
     obtain⟨_,h⟩:=nG h;split at h
     case h_2=>cases h
     rename_i hq;cases h
     exact fun j ob q=>by
      have q1:=qAF (qGQ n) hq j ob q;rw[yZ] at q1;split at q1
      ·cases q1
      ·exact q1
   | _ =>
     have h:(none:Option (FV×PHp))=some (y,ph'):=h;cases h
omit [Yl] in
theorem q7E (h:fzP P ph x=some (y,ph')):qBO ph' ph:=by
 unfold fzP at h;split at h
 ·split at h
  ·rename_i hq;cases h;exact qAF (qGQ 4) hq
  ·cases h
 ·split at h
  ·rename_i hq;cases h;exact qGQ 4 _ _ _ _ hq
  ·cases h
omit [Yl] in
theorem Wk.zL8 {env:List PV}(kb i:Nat)(ty:TypeId)(hk':qA kb ph'=some ob)(hsp:spec P ob.el=false)(hgr:ob.gr=false)(hi:zJ ob.cs i=some x)(hf:fzP P ph x=some (y,ph'))(hk:qA kb ph=some ob) :
 Wk P nm env ph env (xL kb ⟨ob.el,false,yQ ob.cs i (rt1 P ty y)⟩ ph'):=by
 intro Z H m zFA hp he;have hkM:own m ph kb=some (m kb,ob):=qM hk;have zFY:¬ (ob.gr=true∧ob.cs=[]):=fun h=>by rw[hgr] at h;cases h.1
 rcases hp.obj kb _ ob hkM with h | ⟨_,_,_,⟨_,vs0,a40,a50,_⟩ | ⟨hs2,_⟩⟩
 rotate_right 1
 ·rw[hsp] at hs2;cases hs2
 ·exact absurd h zFY
 obtain⟨v,hv1,hv2⟩:=a50.get (i:=i) (by rw[<-qG];exact hi);obtain⟨Z',fz,hy⟩:=qJ2 hp hv2 hf;have hyr:∀ M,VR P Z' H M (rt1 P ty y) v:=fun M=>qE3 (bO hy (qO2 hf))
 have hp1:=fz.hp;have zJK:own m ph' kb=some (m kb,ob):=qM hk';generalize zL9:xL kb (⟨ob.el,false,yQ ob.cs i (rt1 P ty y)⟩:PO) ph'=ph2
 have hM':∀ j,own m ph2 j=if j=kb then some (m kb,⟨ob.el,false,yQ ob.cs i (rt1 P ty y)⟩) else own m ph' j:=fun j=>by
  subst zL9;unfold own;rw[zA];by_cases h2:j=kb
  ·subst h2;rw[if_pos ⟨rfl,by rw[hk'];rfl⟩,if_pos rfl];rfl
  ·rw[if_neg (fun h=>h2 h.1),if_neg h2]
 have zGS:own m ph2 kb=some (m kb,⟨ob.el,false,yQ ob.cs i (rt1 P ty y)⟩):=by rw[hM',if_pos rfl]
 have hold:∀ j,j≠kb->own m ph2 j=own m ph' j:=fun j h2=>by rw[hM',if_neg h2]
 have hkr:∀ p,KR p (own m ph') (own m ph2):=fun p j b o hj=>by
  by_cases h2:j=kb
  ·subst h2;rw[zGS] at hj;cases hj;exact .inl ⟨ob,zJK,by simp[qV],rfl,hgr⟩
  ·rw[hold j h2] at hj;exact .inl ⟨o,hj,rfl,rfl,rfl⟩
 have mono:∀ {xs:List PV} {vs:List Value},VRL P Z' H (own m ph') xs vs->VRL P Z' H (own m ph2) xs vs:=fun h=>h.mono (fun _ h=>h) (zM0 _) (fun _ _ _=>rfl) (hkr fun _=>false) fun j hj=>by cases hj
 have hp':Hp P Z' H (own m ph2):=by
  refine⟨hp1.zlt,fun j b o hj=>?_,fun j j' b b' o o' h1 h2 r1 r2 hn=>?_,hp1.gl⟩
  ·by_cases h2:j=kb
   ·subst h2;rw[zGS] at hj;cases hj
    rcases hp1.obj j _ ob zJK with h | ⟨a1,a2,a3,⟨_,vs,a4,a5,a6⟩ | ⟨hs2,_⟩⟩
    rotate_right 1
    ·rw[hsp] at hs2;cases hs2
    ·exact absurd h zFY
    ·have hv:=mono a5
     have hvv:vs=vs0:=by
      rw[a40] at a4;injection a4 with e1;injection e1 with e2;injection e2 with e3;exact e3.symm
     subst hvv;refine .inr ⟨a1,a2,a3,.inl ⟨hsp,vs,?_,hv.slot hv1 (hyr _),a6⟩⟩;rw[a4,hgr]
   ·rw[hold j h2] at hj
    rcases hp1.obj j b o hj with h | ⟨a1,a2,a3,a4⟩
    ·exact .inl h
    ·exact .inr ⟨a1,a2,a3,a4.mono rfl fun _ a5=>mono a5⟩
  ·have tr:∀ {j b o},own m ph2 j=some (b,o)->¬ (o.gr=true∧o.cs=[])->∃ o2,own m ph' j=some (b,o2)∧¬ (o2.gr=true∧o2.cs=[]):=fun {j b o} hj hr=>by
    by_cases h2:j=kb
    ·subst h2;rw[zGS] at hj;cases hj;exact⟨ob,zJK,zFY⟩
    ·rw[hold j h2] at hj;exact⟨o,hj,hr⟩
   obtain⟨o2,q1,q2⟩:=tr h1 r1;obtain⟨o3,q3,q4⟩:=tr h2 r2;exact hp1.inj j j' b b' o2 o3 q1 q3 q2 q4 hn
 have hst:Step Z' H (own m ph') Z' H (own m ph2):=⟨zM0 _,rfl,fun _ h=>h,fun _ _ _=>rfl,fun b h _=>.inl h,fun b ⟨j,o,h1,h2⟩ _=>by
  by_cases e2:j=kb
  ·subst e2;rw[zGS] at h1;cases h1;exact⟨j,ob,zJK,zFY⟩
  ·rw[hold j e2] at h1;exact⟨j,o,h1,h2⟩⟩
 exact⟨Z',m,hp',mono (fz.vrl he),fz.step.trans hst,(fz.kr _).trans (hkr _)⟩
def bxI (env:List SV)(i:Nat):Option Nat:=cond (Nat.ble 1000000000000000 i) (some (i - 1000000000000000)) (match zJ env i with
 | some (.ref kb _ _)=>some kb
 | _=>none)
def q81 (P:Program)(i c:Nat)(ty:TypeId)(env:List SV)(h:SH)(K:List SV->SH->zE9 R):zE9 R:=match bxI env i,qED P 8 ty with
 | some kb,some t=>(match slk kb h.l with
   | some (.cells _ _ cs)=>(match zJ cs c with
     | some v=>(match q7C P ty t v h with
       | some (x,h')=>(match slk kb h'.l with
         | some (.cells e _ cs')=>cond (!spec P e) (K env (h'.put kb fun v=>.cells e v (yQ cs' c (t.sv x)))) .fail
         | _=>.fail)
       | none=>.fail)
     | none=>.fail)
   | _=>.fail)
 | _,_=>.fail
theorem qUL {K:List SV->SH->zE9 R}(ho:OkH P h)(he:okL h env)(e:(q81 P i c ty env h K).run=some r) :
 ∃ env' h',Wk P nm (qB env) (qD h.l) (qB env') (qD h'.l)∧xJ P [i] env h env' h'∧(K env' h').run=some r:=by
 unfold q81 at e;split at e
 case h_2=>cases e
 rename_i kb t hi ht;split at e
 case h_2=>cases e
 rename_i eb wb cs hkb;split at e
 case h_2=>cases e
 rename_i v hv;split at e
 case h_2=>cases e
 rename_i x h' hd;split at e
 case h_2=>cases e
 rename_i e2 w2 cs2 hkb2;obtain⟨hc,e1⟩:=qF e;have hvk:v.ok h:=eZ (ho.cells _ _ _ _ hkb) hv;obtain⟨y,a1,a2,a3,a4,_⟩:=qCL ho hvk hd;have hsp:spec P e2=false:=by simpa using hc
 have hp2:=jW (k:=kb) (f:=fun v=>.cells e2 v (yQ cs2 c (t.sv x))) a4 hkb2 ⟨rfl,y9 (a4.cells _ _ _ _ hkb2) (qKV t x)⟩;have hk2:=zM hkb2;have hk1:=zM hkb;have hsub:=q7E a1 kb _ hk2
 have hcs:qB cs2=qB cs:=by
  rw[hk1] at hsub;injection hsub with q;injection q with q1 q2 q3;exact q3.symm
 refine⟨env,h'.put kb fun v=>.cells e2 v (yQ cs2 c (t.sv x)),?_,⟨qI hp2.1 (qI a3 he),hp2.2,a3.trans hp2.1,fun _ _=>rfl,rfl⟩,e1⟩
 have:=Wk.zL8 (P:=P) (nm:=nm) (env:=qB env) kb c ty hk2 hsp rfl (x:=v.enc) (by
  show zJ (qB cs2) c=_
  rw[hcs,qU,hv];rfl) a1 hsub
 refine this.trans ?_
 have he2:xL kb ⟨(SO.cells e2 w2 cs2).enc.el,false,yQ (SO.cells e2 w2 cs2).enc.cs c (rt1 P ty y)⟩ (qD h'.l)=qD ((h'.put kb fun v=>.cells e2 v (yQ cs2 c (t.sv x))).l):=by
  show _=qD (sst kb _ h'.l);rw[xG];simp[SO.enc,xW,nC,a2]
 rw[he2];exact .refl _ _
def zB0 (i:Nat)(env:List SV)(h:SH)(K:List SV->SH->zE9 R):zE9 R:=match zJ env i with
 | some (.d (.list el (.int k)) xs)=>.ite (List.isEmpty xs) .fail (K (yQ env i (.d (.ol el k) xs)) h)
 | _=>.fail
theorem q6G {K:List SV->SH->zE9 R}(ho:OkH P h)(he:okL h env)(e:(zB0 i env h K).run=some r) :
 ∃ env' h',Wk P nm (qB env) (qD h.l) (qB env') (qD h'.l)∧xJ P [i] env h env' h'∧(K env' h').run=some r:=by
 unfold zB0 at e;split at e
 ·rename_i el k xs hi
  rcases run_ite e with ⟨_,e1⟩ | ⟨hx,e1⟩
  ·cases e1
  ·refine⟨_,h,?_,⟨y9 he (by simp[SV.ok]),ho,.refl _,fun j hj=>pI fun q=>hj (by rw[q];exact zQA j),jH _ _ _⟩,e1⟩
   have:qB (yQ env i (.d (.ol el k) xs))=qB env:=by
    rw[xW]
    have h2:(SV.d (.ol el k) xs).enc=(SV.d (.list el (.int k)) xs).enc:=by
     cases xs with
     | nil=>cases hx
     | cons x xs=>simp[SV.enc,Ty.fv,fvo,Ty.cells]
    rw[h2,qV]
    have h3:(qB env)[i]?=some (SV.d (.list el (.int k)) xs).enc:=by
     rw[<-qG,qU,hi];rfl
    obtain⟨h4,h5⟩:=zM6.1 h3;rw[<-h5,List.set_getElem_self]
   rw[this];exact .refl _ _
 ·cases e
omit [Yl] in
theorem Wk.ext {pe:List PV}{a b:PHp}(h:∀ l,qA l b=qA l a):Wk P nm pe a pe b:=fun Z H m vs hp hv=>by
 have e:own m b=own m a:=qBU h;exact⟨Z,m,by rw[e];exact hp,by rw[e];exact hv,by rw[e];exact .refl _ _ _,by rw[e];exact .refl _ _⟩
def olV (P:Program)(ty:TypeId):SV->Option (Option Bool×SV)
 | .d (.list el (.int k)) xs=>some (some (List.isEmpty xs),.d (.ol el k) xs)
 | .c (.slice none 0 0)=>(match zEH P ty with
   | some (.ol el k)=>some (none,.d (.ol el k) [])
   | _=>none)
 | .d (.ol el k) xs=>some (none,.d (.ol el k) xs)
 | _=>none
theorem q61 {x:SV}{b:Option Bool}(e:olV P ty v=some (b,x))(hb:b≠some true):x.enc=v.enc∧∀ h,x.ok h:=by
 unfold olV at e;split at e
 ·rename_i el k xs;cases e;refine⟨?_,fun h=>by simp[SV.ok]⟩
  cases xs with
  | nil=>exact absurd rfl hb
  | cons x xs=>simp[SV.enc,Ty.fv,fvo,Ty.cells]
 ·split at e
  ·cases e;exact⟨by simp[SV.enc,Ty.fv,fvo,fvv],fun h=>by simp[SV.ok]⟩
  ·cases e
 ·cases e;exact⟨rfl,fun h=>by simp[SV.ok]⟩
 ·cases e
def q92 (P:Program)(i c:Nat)(ty:TypeId)(env:List SV)(h:SH)(K:List SV->SH->zE9 R):zE9 R:=match bxI env i with
 | some kb=>(match slk kb h.l with
   | some (.cells el _ cs)=>(match zJ cs c with
     | some v=>(match olV P ty v with
       | some (some b,x)=>.ite b .fail (K env (h.put kb fun u=>.cells el u (yQ cs c x)))
       | some (none,x)=>K env (h.put kb fun u=>.cells el u (yQ cs c x))
       | none=>.fail)
     | none=>.fail)
   | _=>.fail)
 | _=>.fail
theorem qU1 {K:List SV->SH->zE9 R}(ho:OkH P h)(he:okL h env)(e:(q92 P i c ty env h K).run=some r) :
 ∃ env' h',Wk P nm (qB env) (qD h.l) (qB env') (qD h'.l)∧xJ P [i] env h env' h'∧(K env' h').run=some r:=by
 unfold q92 at e;split at e
 case h_2=>cases e
 rename_i kb hi;split at e
 case h_2=>cases e
 rename_i el w0 cs hk;split at e
 case h_2=>cases e
 rename_i v hv
 have fin:∀ {b:Option Bool} {x:SV},olV P ty v=some (b,x)->b≠some true->(K env (h.put kb fun u=>.cells el u (yQ cs c x))).run=some r->∃ env' h',Wk P nm (qB env) (qD h.l) (qB env') (qD h'.l)∧xJ P [i] env h env' h'∧(K env' h').run=some r:=fun {b x} hx hb e=>by
  obtain⟨h1,h2⟩:=q61 hx hb;have hp:=jW (k:=kb) (f:=fun u=>.cells el u (yQ cs c x)) ho hk ⟨rfl,y9 (ho.cells _ _ _ _ hk) (h2 h)⟩;refine⟨env,_,Wk.ext fun l=>?_,⟨qI hp.1 he,hp.2,hp.1,fun _ _=>rfl,rfl⟩,e⟩;show qA l (qD (sst kb _ h.l))=_;rw[xG,zA];split
  ·rename_i q;rw[q.1,zM hk];show some (⟨el,false,qB (yQ cs c x)⟩:PO)=some ⟨el,false,qB cs⟩;rw[xW,h1,qV];have h3:(qB cs)[c]?=some v.enc:=by rw[<-qG,qU,hv];rfl
   obtain⟨h4,h5⟩:=zM6.1 h3;rw[<-h5,List.set_getElem_self]
  ·rfl
 split at e
 ·rename_i b x hx
  rcases run_ite e with ⟨_,e1⟩ | ⟨hb,e1⟩
  ·cases e1
  ·exact fin hx (by rw[hb];simp) e1
 ·rename_i x hx;exact fin hx (by simp) e
 ·cases e
def q31 (i c:Nat)(env:List SV)(h:SH):Bool:=match bxI env i with
 | some kb=>(match slk kb h.l with
   | some (.cells _ _ cs)=>(match zJ cs c with
     | some (.own _ _ _)=>true
     | some (.sl _ _ _ _ _)=>true
     | _=>false)
   | _=>false)
 | none=>false
def zCG (P:Program)(i c:Nat)(ty:TypeId)(env:List SV)(h:SH)(K:List SV->SH->zE9 R):zE9 R:=cond (q31 i c env h) (q81 P i c ty env h fun env h=>q92 P i c ty env h K) (q92 P i c ty env h K)
theorem q6F {K:List SV->SH->zE9 R}(ho:OkH P h)(he:okL h env)(e:(zCG P i c ty env h K).run=some r) :
 ∃ env' h',Wk P nm (qB env) (qD h.l) (qB env') (qD h'.l)∧xJ P [i] env h env' h'∧(K env' h').run=some r:=by
 unfold zCG at e
 cases hb:q31 i c env h with
 | true =>
   rw[hb] at e;obtain⟨zFG,h1,a,b,e1⟩:=qUL (nm:=nm) ho he (show (q81 P i c ty env h fun env h=>q92 P i c ty env h K).run=some r from e);obtain⟨zFS,h2,a2,b2,e2⟩:=qU1 (nm:=nm) b.2.1 b.1 e1;exact⟨zFS,h2,a.trans a2,(b.trans b2).up fun i hi=>by simpa using hi,e2⟩
 | false =>
   rw[hb] at e;exact qU1 ho he e
def qB7 (P:Program)(nm:Nm):List (Nat×Nat×TypeId×Nat)->List SV->SH->(List SV->SH->zE9 R)->zE9 R
 | [],env,h,K=>K env h
 | (kb,i,el,k)::l,env,h,K=>match slk kb h.l with
   | some (.cells e _ cs)=>(match zJ cs i with
     | some v=>cond (qEV v) (match szT P el,qED P 8 el with
       | some (s+1),some t=>cond (Nat.beq t.w (s+1)&&(qEL nm k env h&&(!Nat.beq k kb&&!spec P e))) (qB7 P nm l env ((h.new k fun v=>.list el true v v t []).put kb fun v=>.cells e v (yQ cs i (.own k h.next 0))) K) .fail
       | _,_=>.fail) (qB7 P nm l env h K)
     | none=>.fail)
   | _=>.fail
theorem oH:∀ {l:List (Nat×Nat×TypeId×Nat)} {env:List SV} {h:SH} {K:List SV->SH->zE9 R},OkH P h->okL h env->(qB7 P nm l env h K).run=some r ->
 ∃ h',Wk P nm (qB env) (qD h.l) (qB env) (qD h'.l)∧Keep h h'∧OkH P h'∧(K env h').run=some r
 | [],env,h,K,ho,he,e=>⟨h,.refl _ _,.refl _,ho,e⟩
 | (kb,i,el,k)::l,env,h,K,ho,he,e=>by
   unfold qB7 at e;split at e
   case h_2=>cases e
   rename_i eb wb cs hkb;split at e
   case h_2=>cases e
   rename_i v hv
   cases hn:qEV v with
   | false =>
     rw[hn] at e;exact oH (l:=l) ho he e
   | true =>
     rw[hn] at e;simp only[cond_true] at e;split at e
     case h_2=>cases e
     rename_i s t hs ht;obtain⟨c,e1⟩:=qF e;simp only[zMY] at c;have hw:t.w=s+1:=zMZ c.1
     have hne:k≠kb:=fun q=>by
      have:=c.2.2.1;rw[q,aA] at this;cases this
     have hsp:spec P eb=false:=by simpa using c.2.2.2
     have hn2:=yN (k:=k) (f:=fun v=>.list el true v v t []) ho ⟨rfl,rfl,by rw[hs,hw],by omega⟩;have hok:(SV.own k h.next 0).ok (h.new k fun v=>.list el true v v t []):=jK (xs:=([]:List t.sem)) rfl
     have zMA:slk kb (h.new k fun v=>.list el true v v t []).l=some (.cells eb wb cs):=by
      rw[show slk kb (h.new k fun v=>.list el true v v t []).l=slk kb h.l from yC hne.symm];exact hkb
     have hcs:okL (h.new k fun v=>.list el true v v t []) cs:=qI hn2.1 (ho.cells _ _ _ _ hkb);have hp2:=jW (k:=kb) (f:=fun v=>.cells eb v (yQ cs i (.own k h.next 0))) hn2.2 zMA ⟨rfl,y9 hcs hok⟩
     have hfr:fresh nm k (qB env) (qD h.l)=true:=by
      have c2:=c.2.1;unfold qEL at c2;simp only[zMY] at c2;unfold fresh;rw[c2.1,c2.2.1,jJ c2.2.2];rfl
     obtain⟨h',b1,b2,b3,b4⟩:=oH (l:=l) hp2.2 (qI hp2.1 (qI hn2.1 he)) e1;refine⟨h',?_,hn2.1.trans (hp2.1.trans b2),b3,b4⟩;have hk:=zM hkb
     have:=Wk.zK4 (P:=P) (nm:=nm) (env:=qB env) kb i k el hk hsp rfl (by
      show zJ (qB cs) i=_
      rw[qU,hv,zNE,qD5 hn]) hs hfr hne
     refine Wk.trans this ?_
     have he2:(k,(⟨el,true,[]⟩:PO))::xL kb ⟨(SO.cells eb wb cs).enc.el,false,yQ (SO.cells eb wb cs).enc.cs i (.own k 0 0 0)⟩ (qD h.l)=qD (((h.new k fun v=>.list el true v v t []).put kb fun v=>.cells eb v (yQ cs i (.own k h.next 0))).l):=by
      show _=qD (sst kb _ ((k,_)::h.l));have:(kb==k)=false:=by simpa using hne.symm
      show _=qD (cond (kb==k) _ ((k,_)::sst kb _ h.l));rw[this];show _=(k,_)::qD (sst kb _ h.l);rw[xG];simp[SO.enc,xW,SV.enc]
     rw[he2];exact b1
def unB (c:Nat):Nat×Nat×TypeId×Nat:=((c / 1000000) % 10000000,(c / 100000) % 10,c % 100000,c / 10000000000000)
def fzv (P:Program)(nm:Nm):List (Nat×TypeId)->List SV->SH->(List SV->SH->zE9 R)->zE9 R
 | [],env,h,K=>K env h
 | (i,ty)::l,env,h,K=>cond (Nat.ble 2000000000 ty) (cond (Nat.ble 3000000000 ty) (cond (Nat.ble 4000000000 ty) (cond (Nat.ble 5000000000 ty) (cond (Nat.ble 6000000000 ty) (cond (Nat.ble 7000000000000 ty) (qB7 P nm [unB (ty - 7000000000000)] env h fun env h=>fzv P nm l env h K) (zCG P i ((ty - 6000000000) / 100000) ((ty - 6000000000) % 100000) env h fun env h=>fzv P nm l env h K)) (zB0 i env h fun env h=>fzv P nm l env h K)) (q81 P i ((ty - 4000000000) / 100000) ((ty - 4000000000) % 100000) env h fun env h=>fzv P nm l env h K)) (fzv P nm l (yQ env i .unk) h K)) (zB8 P nm i env h fun env h=>fzv P nm l env h K)) <| cond (Nat.ble 1000000000 ty) (qQ6 P nm [(i,ty - 1000000000)] env h fun env h=>fzv P nm l env h K) (fzs P [(i,ty)] env h fun env h=>fzv P nm l env h K)
theorem qOV:∀ {l:List (Nat×TypeId)} {env:List SV} {h:SH} {K:List SV->SH->zE9 R},OkH P h->okL h env->(fzv P nm l env h K).run=some r ->
 ∃ env' h',Wk P nm (qB env) (qD h.l) (qB env') (qD h'.l)∧xJ P (l.map (·.1)) env h env' h'∧(K env' h').run=some r
 | [],env,h,K,ho,he,e=>⟨env,h,.refl _ _,.refl ho he,e⟩
 | (i,ty)::l,env,h,K,ho,he,e=>by
   unfold fzv at e
   have go:∀ {zFG h1},Wk P nm (qB env) (qD h.l) (qB zFG) (qD h1.l)->xJ P [i] env h zFG h1->(fzv P nm l zFG h1 K).run=some r->∃ env' h',Wk P nm (qB env) (qD h.l) (qB env') (qD h'.l)∧xJ P (((i,ty)::l).map (·.1)) env h env' h'∧(K env' h').run=some r:=fun a b e=>by
    obtain⟨env',h',c1,c2,c3⟩:=qOV (l:=l) b.2.1 b.1 e;exact⟨env',h',a.trans c1,b.trans c2,c3⟩
   cases hb2:Nat.ble 2000000000 ty with
   | true =>
     rw[hb2] at e
     cases hb3:Nat.ble 3000000000 ty with
     | true =>
       rw[hb3] at e
       cases hb4:Nat.ble 4000000000 ty with
       | true =>
         rw[hb4] at e
         cases hb5:Nat.ble 5000000000 ty with
         | true =>
           rw[hb5] at e
           cases hb6:Nat.ble 6000000000 ty with
           | true =>
             rw[hb6] at e
             cases hb7:Nat.ble 7000000000000 ty with
             | true =>
               rw[hb7] at e;have e:(qB7 P nm [unB (ty - 7000000000000)] env h fun env h=>fzv P nm l env h K).run=some r:=e;obtain⟨h1,a,b,c,e1⟩:=oH (nm:=nm) ho he e;exact go a ⟨qI b he,c,b,fun _ _=>rfl,rfl⟩ e1
             | false =>
               rw[hb7] at e;have e:(zCG P i ((ty - 6000000000) / 100000) ((ty - 6000000000) % 100000) env h fun env h=>fzv P nm l env h K).run=some r:=e;obtain⟨zFG,h1,a,b,e1⟩:=q6F (nm:=nm) ho he e;exact go a b e1
           | false =>
             rw[hb6] at e;have e:(zB0 i env h fun env h=>fzv P nm l env h K).run=some r:=e;obtain⟨zFG,h1,a,b,e1⟩:=q6G (nm:=nm) ho he e;exact go a b e1
         | false =>
         rw[hb5] at e;have e:(q81 P i ((ty - 4000000000) / 100000) ((ty - 4000000000) % 100000) env h fun env h=>fzv P nm l env h K).run=some r:=e;obtain⟨zFG,h1,a,b,e1⟩:=qUL (nm:=nm) ho he e;exact go a b e1
       | false =>
         rw[hb4] at e;obtain⟨a,b⟩:=qS7 (nm:=nm) (i:=i) ho he;exact go a b e
     | false =>
       rw[hb3] at e;have e:(zB8 P nm i env h fun env h=>fzv P nm l env h K).run=some r:=e;obtain⟨zFG,h1,a,b,e1⟩:=q53 (nm:=nm) ho he e;exact go a b e1
   | false =>
   rw[hb2] at e
   cases hb:Nat.ble 1000000000 ty with
   | true =>
     rw[hb] at e;obtain⟨zFG,h1,a,b,e1⟩:=tK (nm:=nm) ho he e;exact go a b e1
   | false =>
     rw[hb] at e;obtain⟨zFG,h1,a,b,e1⟩:=q3K (nm:=nm) ho he e;exact go a b e1
def qE6 (P:Program):List Nat->SH->SH
 | [],h=>h
 | kb::l,h=>match slk kb h.l with
   | some (.cells el _ cs)=>(match qED P 8 el with
     | some t=>(match t.zHV cs with
       | some x=>qE6 P l (h.put kb fun v=>.cells el v (t.svs x))
       | none=>qE6 P l h)
     | none=>qE6 P l h)
   | _=>qE6 P l h
theorem oU:∀ {bs:List Nat} {h:SH},OkH P h->Keep h (qE6 P bs h)∧OkH P (qE6 P bs h)∧∀ l,qA l (qD (qE6 P bs h).l)=qA l (qD h.l)
 | [],h,ho=>⟨.refl _,ho,fun _=>rfl⟩
 | kb::bs,h,ho=>by
   unfold qE6;split
   ·rename_i el w cs hk;split
    ·rename_i t ht;split
     ·rename_i x hx;have hp:=jW (k:=kb) (f:=fun v=>.cells el v (t.svs x)) ho hk ⟨rfl,qDN t x⟩;obtain⟨a1,a2,a3⟩:=oU (bs:=bs) hp.2;refine⟨hp.1.trans a1,a2,fun l=>(a3 l).trans ?_⟩;show qA l (qD (sst kb _ h.l))=_;rw[xG,zA];split
      ·rename_i e;rw[e.1,zM hk];show some (⟨el,false,qB (t.svs x)⟩:PO)=some ⟨el,false,qB cs⟩;rw[gQ,nK hx]
      ·rfl
     ·exact oU (bs:=bs) ho
    ·exact oU (bs:=bs) ho
   ·exact oU (bs:=bs) ho
def qW1 (P:Program)(nm:Nm)(bs:List Nat)(bv:List (Nat×Nat×TypeId×Nat))(env:List SV)(h:SH)(K:List SV->SH->zE9 R):zE9 R:=qB7 P nm bv env h fun env h=>K env (qE6 P bs h)
theorem qJK {bs:List Nat}{l:List (Nat×Nat×TypeId×Nat)}{K:List SV->SH->zE9 R}(ho:OkH P h)(he:okL h env)(e:(qW1 P nm bs l env h K).run=some r) :
 ∃ h',Wk P nm (qB env) (qD h.l) (qB env) (qD h'.l)∧Keep h h'∧OkH P h'∧(K env h').run=some r:=by
 obtain⟨h',a1,a2,a3,a4⟩:=oH (nm:=nm) ho he e;obtain⟨b1,b2,b3⟩:=oU (bs:=bs) a3;exact⟨_,a1.trans (.ext b3),a2.trans b1,b2,a4⟩
end
end Go.Sv
namespace Go.Sv
open Go.Idl
noncomputable section
variable [Gc]
variable [Yl]
variable {P:Program}{R:Type}{r:R}{nm:Nm}
def zEG:SV->Option Ty
 | .d t _=>cond t.one (some t) none
 | .c (.int k _)=>some (.int k)
 | .c (.bool _)=>some .bool
 | .c (.string _)=>some .str
 | _=>none
def tyV:SV->Option Ty
 | .agg l=>tyL (l.map zEG)
 | v=>zEG v
def zCT:List SV->Option (List Ty)
 | []=>some []
 | v::l=>match tyV v,zCT l with
   | some t,some ts=>some (t::ts)
   | _,_=>none
def zCC (t:Ty)(v:SV):Option t.sem:=cond t.one (t.zJI v) (match v with
 | .agg l=>t.zHV l
 | _=>none)
theorem qOM {t:Ty}{v:SV}{x:t.sem}(e:zCC t v=some x):v.enc=t.pv x:=by
 unfold zCC at e;unfold Ty.pv
 cases ht:t.one with
 | true=>rw[ht] at e;exact (sU e).1
 | false =>
   rw[ht] at e;simp only[cond_false] at e ⊢;split at e
   ·simp only[SV.enc,nK e]
   ·cases e
def sQ:(ts:List Ty)->List SV->Option (TyL ts)
 | [],[]=>some ()
 | [t],[v]=>zCC t v
 | t::u::ts,v::vs=>match zCC t v with
   | some x=>(match sQ (u::ts) vs with
     | some y=>some (x,y)
     | none=>none)
   | none=>none
 | _,_=>none
theorem aN:∀ {ts:List Ty} {l:List SV} {s:TyL ts},sQ ts l=some s->qB l=qB (svL ts s)
 | [],[],s,e=>by simp[svL]
 | [t],[v],s,e=>by
   unfold sQ at e;simp only[svL,qB,nC,qOM e]
 | t::u::ts,v::vs,s,e=>by
   unfold sQ at e;split at e
   ·rename_i x hx;split at e
    ·rename_i y hy;cases e;have ih:=aN hy;show qB (v::vs)=qB (t.sv x::svL (u::ts) y);simp only[qB,nC,qOM hx,ih]
    ·cases e
   ·cases e
 | [],_::_,_,e=>by cases e
 | t::ts,[],_,e=>by cases ts <;> (unfold sQ at e;cases e)
 | [_],_::_::_,_,e=>by unfold sQ at e;cases e
def qFN:List Nat->List SV->Option (List SV)
 | [],_=>some []
 | i::is,env=>match zJ env i,qFN is env with
   | some v,some l=>some (v::l)
   | _,_=>none
def spD:SpO->Option SV
 | .map es=>some (.d .raw es)
 | .iter s pos=>some (.agg [.d .str s,.d (.int .i64) (pos:Int)])
 | .mit _ _ _ _ _=>none
 | .arr el k xs=>cond (Nat.beq el 1000000001) none (some (.d (.list el (.int k)) xs))
def obD:SO->Option (SV×Bool)
 | .list el gr _ _ u xs=>cond (Nat.beq el 1000000001) none (some (.d (.list el u) xs,gr))
 | .spc _ x=>(spD x).map fun v=>(v,false)
 | .cells _ _ _=>none
def qSQ:List Nat->SH->Option (List SV)
 | [],_=>some []
 | k::ks,h=>match slk k h.l,qSQ ks h with
   | some ob,some l=>(match obD ob with
     | some p=>some (p.1::l)
     | none=>none)
   | _,_=>none
def q5Y:List Nat->SH->Option (List (Nat×Bool))
 | [],_=>some []
 | k::ks,h=>match slk k h.l,q5Y ks h with
   | some ob,some l=>(match obD ob with
     | some p=>some ((k,p.2)::l)
     | none=>none)
   | _,_=>none
def oW (i:Nat):List Nat->Bool
 | []=>false
 | j::l=>cond (Nat.beq i j) true (oW i l)
omit [Yl] in
theorem xH {i:Nat}:∀ {l:List Nat},oW i l=true ↔ i∈l
 | []=>by simp[oW]
 | j::l=>by
   unfold oW;rw[zNF]
   cases h:Nat.beq i j with
   | true=>simp[zMZ h]
   | false =>
     have:i≠j:=fun e=>by subst e;rw[aA] at h;cases h
     simp only[cond_false,xH (l:=l),this,false_or]
def blank (W:List Nat):Nat->List SV->List SV
 | _,[]=>[]
 | i,x::l=>cond (oW i W) .unk x::blank W (i+1) l
omit [Yl] in
theorem qBI (W:List Nat):∀ (i:Nat) (l:List SV),(blank W i l).length=l.length
 | _,[]=>rfl
 | i,x::l=>by simp[blank,qBI W (i+1) l]
omit [Yl] in
theorem qCF (W:List Nat):∀ (i j:Nat) (l:List SV),zJ (blank W i l) j=(zJ l j).map fun x=>cond (oW (i+j) W) SV.unk x
 | _,_,[]=>rfl
 | i,0,x::l=>rfl
 | i,j+1,x::l=>by
   show zJ (blank W (i+1) l) j=(zJ l j).map _;rw[qCF W (i+1) j l,zOW,zPR 1 j]
omit [Yl] in
theorem qO1 {h:SH}{W:List Nat}:∀ {i:Nat} {l:List SV},okL h l->okL h (blank W i l)
 | _,[],_=>by simp[blank,okL]
 | i,x::l,hl=>by
   simp only[okL] at hl;show okL h (cond (oW i W) .unk x::blank W (i+1) l);simp only[okL];refine⟨?_,qO1 hl.2⟩;cases oW i W
   ·exact hl.1
   ·simp[SV.ok]
def dG:List Nat->List SV->List SV->List SV×List SV
 | [],l,env=>(env,l)
 | i::is,c::l,env=>dG is l (yQ env i c)
 | _::_,[],env=>(env,[])
def q9P (el:TypeId):(u:Ty)->List u.sem->Bool->Option (Nat->SO)
 | .int k,xs,false=>cond (Nat.beq el 1000000001) none (some fun v=>.spc v (.arr el k xs))
 | _,_,_=>none
omit [Yl] in
theorem qKZ {el:TypeId}:∀ {u:Ty} {xs:List u.sem} {gr:Bool} {f:Nat->SO},q9P el u xs gr=some f->∃ k,∃ ys:List Int,(∀ v,f v=.spc v (.arr el k ys))∧gr=false∧Nat.beq el 1000000001=false∧(⟨u,xs⟩:(u:Ty)×List u.sem)=⟨.int k,ys⟩
 | .int k,xs,false,f,e=>by
   have e:cond (Nat.beq el 1000000001) none (some fun v=>SO.spc v (.arr el k xs))=some f:=e
   cases hc:Nat.beq el 1000000001 with
   | true=>rw[hc] at e;cases e
   | false =>
     rw[hc] at e;cases e;exact⟨k,xs,fun v=>rfl,rfl,rfl,rfl⟩
 | .int k,xs,true,f,e=>by cases e
 | .bool,_,_,_,e=>by cases e
 | .str,_,_,_,e=>by cases e
 | .raw,_,_,_,e=>by cases e
 | .nif,_,_,_,e=>by cases e
 | .fnv _,_,_,_,e=>by cases e
 | .unit,_,_,_,e=>by cases e
 | .ol _ _,_,_,_,e=>by cases e
 | .list _ _,_,_,_,e=>by cases e
 | .pair _ _,_,_,_,e=>by cases e
def q8S (P:Program)(gr:Bool):SV->Option (Nat->SO)
 | .d (.list el u) xs=>(match szT P el with
   | some n=>cond (Nat.beq n u.w&&(Nat.ble 1 n&&!Nat.beq el 1000000001)) (some fun v=>.list el gr v v u xs) (q9P el u xs gr)
   | none=>none)
 | .d .raw es=>some fun v=>.spc v (.map es)
 | .agg [.d .str s,.d (.int .i64) p]=>some fun v=>.spc v (.iter s (Int.toNat p))
 | _=>none
def q47 (P:Program):List (Nat×Bool)->List SV->SH->Option SH
 | [],[]=>fun h=>some h
 | (k,gr)::ks,c::l=>fun h=>(match q8S P gr c with
   | some f=>q47 P ks l ((h.del k).new k f)
   | none=>none)
 | _,_=>fun _=>none
def mkM:Nat:=1000000000000000
def q3C:List (Nat×Nat)->SH->List SV->Option (List SV)
 | [],_,env=>some env
 | (i,k)::l,h,env=>cond (Nat.ble mkM k) (q3C l h (yQ env i (.mp (k - mkM)))) (match slk k h.l with
   | some (.list _ _ g _ _ xs)=>q3C l h (yQ env i (.own k g (List.length xs)))
   | _=>none)
def zAQ (j:Nat):Bool:=Nat.beq j 1000000000
def zC8 (k w:Nat):SV->Option Bool
 | .ref k' off w'=>cond (Nat.beq k k'&&(Nat.beq off 0&&Nat.beq w w')) (some true) none
 | .c (.pointer none)=>some false
 | .opt b k' off w'=>cond (Nat.beq k k'&&(Nat.beq off 0&&Nat.beq w w')) (some b) none
 | _=>none
theorem qZN {k w:Nat}{v:SV}{b:Bool}(e:zC8 k w v=some b):v.enc=(SV.opt b k 0 w).enc:=by
 have eqs:∀ {k' off w':Nat} {x y:Option Bool},cond (Nat.beq k k'&&(Nat.beq off 0&&Nat.beq w w')) x none=y->y≠none->k=k'∧off=0∧w=w'∧x=y:=fun {k' off w' x y} h hy=>by
  cases hc:(Nat.beq k k'&&(Nat.beq off 0&&Nat.beq w w')) with
  | false=>rw[hc] at h;exact absurd h.symm hy
  | true =>
    rw[hc] at h;simp only[zMY] at hc;exact⟨zMZ hc.1,zMZ hc.2.1,zMZ hc.2.2,h⟩
 unfold zC8 at e;split at e
 ·obtain⟨rfl,rfl,rfl,h⟩:=eqs e (by simp);cases h;simp[SV.enc]
 ·cases e;simp[SV.enc]
 ·obtain⟨rfl,rfl,rfl,h⟩:=eqs e (by simp);cases h;simp[SV.enc]
 ·cases e
def qRQ:Nat:=2000000000000000
def q28 (k:Nat):Nat:=cond (Nat.ble qRQ k) (k - qRQ) k
def zAH:SV->Option Nat
 | .own _ _ n=>some n
 | .sl _ _ _ o m=>cond (Nat.beq o 0) (some m) none
 | _=>none
def qYQ (k w:Nat):List (Option Nat)->List SV->Option (List SV)
 | [],[]=>some []
 | none::ds,v::l=>(match qYQ k w ds l with
   | some r=>some (v::r)
   | none=>none)
 | some j::ds,v::l=>cond (zAQ j) (match zC8 k w v,qYQ k w ds l with
   | some b,some r=>some (.d .bool b::r)
   | _,_=>none) (cond (Nat.ble qRQ j) (match zAH v,qYQ k w ds l with
   | some m,some r=>some (.d (.int .i64) (m:Int)::r)
   | _,_=>none) (qYQ k w ds l))
 | _,_=>none
def qC1 (k:Nat)(v:SV)(h:SH):Bool:=match v with
 | .own k' g _=>Nat.beq k' k&&(match slk k' h.l with
   | some (.list _ _ g' _ _ _)=>Nat.beq g g'
   | _=>false)
 | _=>false
def q34 (k:Nat)(v:SV)(h:SH):Bool:=match v with
 | .own k' g n=>qC1 k (.own k' g n) h
 | .sl k' g n _ _=>qC1 k (.own k' g n) h
 | _=>false
def q3L:List (Option Nat)->List SV->SH->Bool
 | some k::ds,v::l,h=>cond (zAQ k) true (cond (Nat.ble qRQ k) (q34 (k - qRQ) v h) (qC1 k v h))&&q3L ds l h
 | none::ds,_::l,h=>q3L ds l h
 | _,_,_=>true
def mkB (kb w:Nat):List (Option Nat)->List SV->SH->Option (List SV×List SV)
 | [],l,_=>some ([],l)
 | none::ds,c::l,h=>(match mkB kb w ds l h with
   | some p=>some (c::p.1,p.2)
   | none=>none)
 | some k::ds,l,h=>cond (zAQ k) (match l with
   | c::l'=>(match asB c,mkB kb w ds l' h with
     | some b,some p=>some (.opt b kb 0 w::p.1,p.2)
     | _,_=>none)
   | []=>none) (cond (Nat.ble qRQ k) (match l with
   | c::l'=>(match asI c,slk (k - qRQ) h.l,mkB kb w ds l' h with
     | some (.i64,m),some (.list _ _ g _ _ xs),some p=>some (.sl (k - qRQ) g (List.length xs) 0 (Nat.min (Int.toNat m) (List.length xs))::p.1,p.2)
     | _,_,_=>none)
   | []=>none) (match slk k h.l with
   | some (.list _ _ g _ _ xs)=>(match mkB kb w ds l h with
     | some p=>some (.own k g (List.length xs)::p.1,p.2)
     | none=>none)
   | _=>none))
 | none::_,[],_=>none
def q83 (h1:SH):List (Nat×List (Option Nat))->List SV->SH->Option SH
 | [],_,h=>some h
 | (k,ds)::bs,l,h=>match slk k h1.l with
   | some (.cells el _ _)=>(match mkB k (List.length ds) ds l h with
     | some p=>q83 h1 bs p.2 ((h.del k).new k fun v=>.cells el v p.1)
     | none=>none)
   | _=>none
def qYR:List (Nat×List (Option Nat))->SH->Option (List SV)
 | [],_=>some []
 | (k,ds)::bs,h=>match slk k h.l with
   | some (.cells _ _ l)=>(match qYQ k (List.length ds) ds l,qYR bs h with
     | some a,some b=>some (a++b)
     | _,_=>none)
   | _=>none
def mM (L:List Nat)(bs:List (Nat×List (Option Nat)))(h1 h:SH):Bool:=bs.all fun p=>oW p.1 L&&((p.2.all fun x=>match x with
 | some k=>!oW (q28 k) L
 | none=>true)&&(match slk p.1 h1.l,slk p.1 h.l with
 | some (.cells e1 _ _),some (.cells e2 _ l)=>Nat.beq e1 e2&&q3L p.2 l h
 | _,_=>false))
def mkS (P:Program)(W:List Nat)(sh:Sh)(ts:List Ty)(os:List (Nat×Bool))(env:List SV)(h:SH)(s:TyL ts):Option (List SV×SH) :=
 match q47 P os ((dG sh.d (svL ts s) (blank W 0 env)).2.take os.length) h with
 | some h2=>(match q83 h sh.b ((dG sh.d (svL ts s) (blank W 0 env)).2.drop os.length) h2 with
   | some h3=>(match q3C sh.s h3 (dG sh.d (svL ts s) (blank W 0 env)).1 with
     | some e2=>some (e2,h3)
     | none=>none)
   | none=>none)
 | none=>none
omit [Yl] in
theorem qHF {l m:List PV}{i:Nat}{x:PV}(h:WkP l m)(hx:zJ l i=some x):WkP l (yQ m i x):=by
 rw[qV];rw[qG] at hx
 have hl:l.length=(m.set i x).length:=by
  rw[zOB];clear hx
  induction h with
  | nil=>rfl
  | same _ ih=>simp[ih]
  | any _ ih=>simp[ih]
 have hp:∀ j:Nat,m[j]?=l[j]?∨m[j]?=some PV.unk:=by
  clear hx hl
  induction h with
  | nil=>intro j;exact .inl rfl
  | same _ ih=>intro j;cases j with
    | zero=>exact .inl rfl
    | succ j=>exact ih j
  | any _ ih=>intro j;cases j with
    | zero=>exact .inr rfl
    | succ j=>exact ih j
 refine qPC hl fun j=>?_
 rw[qG,qG,zNU];by_cases e:i=j
 ·subst e;rw[if_pos rfl];split
  ·exact .inl hx.symm
  ·rename_i hlt;have hlt':i < l.length:=(zM6.1 hx).1;rw[hl,zOB] at hlt';exact absurd hlt' hlt
 ·rw[if_neg e];exact hp j
theorem qLH:∀ {is:List Nat} {env l b m rest:List SV},qFN is env=some l->qB (l++b)=qB m->WkP (qB env) (qB rest)->WkP (qB env) (qB (dG is m rest).1)∧qB (dG is m rest).2=qB b
 | [],env,l,b,m,rest,e,hm,hw=>by
   cases e;exact⟨hw,hm.symm⟩
 | i::is,env,l,b,m,rest,e,hm,hw=>by
   unfold qFN at e;split at e
   ·rename_i v l' hv hl';cases e
    cases m with
    | nil=>simp[qB] at hm
    | cons c m =>
      simp only[zPD,qB,zNW] at hm;show WkP (qB env) (qB (dG is m (yQ rest i c)).1)∧qB (dG is m (yQ rest i c)).2=qB b;refine qLH hl' hm.2 ?_;rw[xW,<-hm.1];exact qHF hw (by rw[qU,hv];rfl)
   ·cases e
omit [Yl] in
theorem qHH:∀ (is:List Nat) (l env:List SV),(dG is l env).1.length=env.length
 | [],l,env=>rfl
 | i::is,[],env=>rfl
 | i::is,c::l,env=>by
   show (dG is l (yQ env i c)).1.length=_;rw[qHH is l,jH]
omit [Yl] in
theorem qLQ {h:SH}:∀ {is:List Nat} {l env:List SV},okL h l->okL h env->okL h (dG is l env).1
 | [],l,env,_,he=>he
 | i::is,[],env,_,he=>he
 | i::is,c::l,env,hl,he=>by
   simp only[okL] at hl;show okL h (dG is l (yQ env i c)).1;exact qLQ hl.2 (y9 he hl.1)
omit [Yl] in
theorem qGJ:∀ {is:List Nat} {l env:List SV} {j:Nat},j ∉ is->zJ (dG is l env).1 j=zJ env j
 | [],l,env,j,_=>rfl
 | i::is,[],env,j,_=>rfl
 | i::is,c::l,env,j,hj=>by
   rw[zNF,not_or] at hj;show zJ (dG is l (yQ env i c)).1 j=_;rw[qGJ hj.2,qV,qG,qG,zNU,if_neg (fun e=>hj.1 e.symm)]
omit [Yl] in
theorem qJ4 {k:Nat}{gr:Bool}{ks:List (Nat×Bool)}{c:SV}{l:List SV}{h h2:SH}(e:q47 P ((k,gr)::ks) (c::l) h=some h2) :
 ∃ f,q8S P gr c=some f∧q47 P ks l ((h.del k).new k f)=some h2:=by
 unfold q47 at e;split at e
 ·rename_i f hf;exact⟨f,hf,e⟩
 ·cases e
omit [Yl] in
theorem q1G {gr:Bool}{c:SV}{f:Nat->SO}(e:q8S P gr c=some f)(h:SH)(n:Nat):zA3 P h n (f n):=by
 unfold q8S at e;split at e
 ·rename_i el u xs;split at e
  ·rename_i m hm
   cases hc:(Nat.beq m u.w&&(Nat.ble 1 m&&!Nat.beq el 1000000001)) with
   | false =>
     rw[hc] at e;obtain⟨k,ys,h1,_⟩:=qKZ e;rw[h1];rfl
   | true =>
     rw[hc] at e;cases e;simp only[zMY] at hc;have hw:m=u.w:=zMZ hc.1;have h1:=zM9 hc.2.1;exact⟨rfl,rfl,by rw[hm,hw],by omega⟩
  ·cases e
 ·cases e;rfl
 ·cases e;rfl
 ·cases e
omit [Yl] in
theorem qLU:∀ {os:List (Nat×Bool)} {l:List SV} {h h2:SH},OkH P h->q47 P os l h=some h2->Keep h h2∧OkH P h2∧∀ k,k ∉ os.map (·.1)->slk k h2.l=slk k h.l
 | [],[],h,h2,ho,e=>by cases e;exact⟨.refl _,ho,fun _ _=>rfl⟩
 | (k,gr)::ks,c::l,h,h2,ho,e=>by
   obtain⟨f,hf,e1⟩:=qJ4 e;have hd:=fI (k:=k) ho;have hn2:=yN (h:=h.del k) (k:=k) (f:=f) hd.2 (q1G hf _ _);obtain⟨a1,a2,a3⟩:=qLU hn2.2 e1;refine⟨hd.1.trans (hn2.1.trans a1),a2,fun j hj=>?_⟩;rw[zNH,zNF,not_or] at hj;rw[a3 j hj.2];show slk j ((k,_)::(h.del k).l)=_;rw[yC hj.1];exact kM hj.1 _
 | [],_::_,_,_,_,e=>by cases e
 | _::_,[],_,_,_,e=>by cases e
def qZS:List FV->List (Value×Value)
 | .v k::.v x::l=>(k,x)::qZS l
 | _=>[]
omit [Yl] in
theorem qFG:∀ (es:List (Value×Value)),qZS (dN es)=es
 | []=>rfl
 | p::es=>by
   show (p.1,p.2)::qZS (dN es)=_;rw[qFG es]
def obE (gr:Bool):PV->Option PO
 | .f (.l el _ cs)=>cond (Nat.beq el 1000000001) (some (SpO.map (qZS cs)).enc) (some ⟨el,gr,cs.map .f⟩)
 | .agg [.f (.v (.string s)),.f (.v (.int _ p))]=>some (SpO.iter s p.toNat).enc
 | _=>none
theorem zBY {gr:Bool}{c:SV}{f:Nat->SO}(e:q8S P gr c=some f)(n:Nat):obE gr c.enc=some (f n).enc:=by
 unfold q8S at e;split at e
 ·rename_i el u xs;split at e
  ·rename_i m hm
   cases hc:(Nat.beq m u.w&&(Nat.ble 1 m&&!Nat.beq el 1000000001)) with
   | false =>
     rw[hc] at e;obtain⟨k,ys,h1,rfl,h2,h3⟩:=qKZ e;cases h3;rw[h1];simp only[SV.enc,Ty.fv,obE,h2,cond_false];show some (PO.mk el false ((List.flatMap (Ty.int k).cells ys).map .f))=some ⟨el,false,ys.map fun x=>fvv (.int k x)⟩;rw[qZF,zO6];rfl
   | true =>
     rw[hc] at e;cases e;simp only[zMY,zNJ] at hc;simp only[SV.enc,Ty.fv,obE,hc.2.2,cond_false];rfl
  ·cases e
 ·rename_i es;cases e;simp only[SV.enc,Ty.fv,obE];show cond (Nat.beq 1000000001 1000000001) _ _=_;rw[qFG];rfl
 ·cases e;simp only[SV.enc,qB,Ty.fv,obE];rfl
 ·cases e
theorem zDG {ob:SO}{p:SV×Bool}(e:obD ob=some p):obE p.2 p.1.enc=some ob.enc:=by
 unfold obD at e;split at e
 ·rename_i el gr g w u xs
  cases hc:Nat.beq el 1000000001 with
  | true=>rw[hc] at e;cases e
  | false =>
    rw[hc] at e;cases e;simp only[SV.enc,Ty.fv,obE,hc,cond_false];rfl
 ·rename_i w x
  cases x with
  | map es =>
    cases e;simp only[SV.enc,Ty.fv,obE];show cond (Nat.beq 1000000001 1000000001) _ _=_;rw[qFG];rfl
  | iter s pos =>
    cases e;simp only[SV.enc,qB,Ty.fv,obE];rfl
  | mit t j si la seen=>cases e
  | arr el ik xs =>
    have e:(cond (Nat.beq el 1000000001) none (some (SV.d (.list el (.int ik)) xs))).map (fun v=>(v,false))=some p:=e
    cases hc:Nat.beq el 1000000001 with
    | true=>rw[hc] at e;cases e
    | false =>
      rw[hc] at e;cases e;simp only[SV.enc,Ty.fv,obE,hc,cond_false];show some (PO.mk el false ((List.flatMap (Ty.int ik).cells xs).map .f))=some ⟨el,false,xs.map fun x=>fvv (.int ik x)⟩;rw[qZF,zO6];rfl
 ·cases e
theorem qPQ {q:PHp}{B:Nat->Prop}:∀ {os:List (Nat×Bool)} {l:List SV} {h h2:SH},q47 P os l h=some h2->(∀ k o,¬ B k->k ∉ os.map (·.1)->slk k h.l=some o->qA k q=some o.enc) ->
 (∀ (i:Nat) k gr c,os[i]?=some (k,gr)->l[i]?=some c->qA k q=obE gr c.enc)->∀ k o,¬ B k->slk k h2.l=some o->qA k q=some o.enc
 | [],[],h,h2,e,h0,_,k,o,hB,hk=>by
   cases e;exact h0 k o hB (by simp) hk
 | (j,gr)::ks,c::l,h,h2,e,h0,h1,k,o,hB,hk=>by
   obtain⟨f,hf,e1⟩:=qJ4 e;refine qPQ (q:=q) (B:=B) e1 (fun k2 o2 hB2 hk2 ho2=>?_) (fun i k2 gr2 c2 a1 a2=>h1 (i+1) k2 gr2 c2 (by simpa using a1) (by simpa using a2)) k o hB hk;by_cases hj:k2=j
   ·subst hj;rw[show slk k2 ((h.del k2).new k2 f).l=some (f (h.del k2).next) from kU] at ho2;cases ho2;rw[h1 0 k2 gr c rfl rfl];exact zBY hf _
   ·rw[show slk k2 ((h.del j).new j f).l=slk k2 (h.del j).l from yC hj,show slk k2 (h.del j).l=slk k2 h.l from kM hj _] at ho2;exact h0 k2 o2 hB2 (by rw[zNH,zNF,not_or];exact⟨hj,hk2⟩) ho2
 | [],_::_,_,_,e,_,_,_,_,_,_=>by cases e
 | _::_,[],_,_,e,_,_,_,_,_,_=>by cases e
omit [Yl] in
theorem qA7 {h:SH}:∀ {is:List Nat} {l env:List SV},okL h l->okL h (dG is l env).2
 | [],l,env,hl=>hl
 | i::is,[],env,_=>by simp[dG,okL]
 | i::is,c::l,env,hl=>by
   simp only[okL] at hl;show okL h (dG is l (yQ env i c)).2;exact qA7 hl.2
omit [Yl] in
theorem qO8 {h:SH}{l:List SV}(n:Nat)(hl:okL h l):okL h (l.drop n):=zK.2 fun x hx=>zK.1 hl x (zP2 hx)
theorem qTJ (l:List SV)(n:Nat):qB (l.take n)=(qB l).take n:=by rw[zD,zD,zO5]
theorem qXH (l:List SV)(n:Nat):qB (l.drop n)=(qB l).drop n:=by rw[zD,zD,zPA]
omit [Yl] in
theorem qLT {h:SH}(ho:OkH P h):∀ {l:List (Nat×Nat)} {env e2:List SV},okL h env->q3C l h env=some e2->okL h e2∧e2.length=env.length∧∀ j,j ∉ l.map (·.1)->zJ e2 j=zJ env j
 | [],env,e2,he,e=>by cases e;exact⟨he,rfl,fun _ _=>rfl⟩
 | (i,k)::l,env,e2,he,e=>by
   unfold q3C at e
   cases hmk:Nat.ble mkM k with
   | true =>
     rw[hmk] at e;simp only[cond_true] at e;obtain⟨a1,a2,a3⟩:=qLT ho (y9 (t:=i) he (v:=.mp (k - mkM)) (by simp[SV.ok])) e;refine⟨a1,a2.trans (jH _ _ _),fun j hj=>?_⟩;rw[zNH,zNF,not_or] at hj;rw[a3 j hj.2,qV,qG,qG,zNU,if_neg (fun e=>hj.1 e.symm)]
   | false =>
   rw[hmk] at e;simp only[cond_false] at e;split at e
   ·rename_i el gr g w u xs hk;have hg:=(ho.list _ _ _ _ _ _ _ hk).1
    have hok:(SV.own k g (List.length xs)).ok h:=by
     simp only[SV.ok];exact⟨hg,fun el2 gr2 w2 t2 xs2 hk2=>by rw[hk] at hk2;cases hk2;rfl⟩
    obtain⟨a1,a2,a3⟩:=qLT ho (y9 (t:=i) he hok) e;refine⟨a1,a2.trans (jH _ _ _),fun j hj=>?_⟩;rw[zNH,zNF,not_or] at hj;rw[a3 j hj.2,qV,qG,qG,zNU,if_neg (fun e=>hj.1 e.symm)]
   ·cases e
omit [Yl] in
theorem qEU {kb w:Nat}{h:SH}(ho:OkH P h):∀ {ds:List (Option Nat)} {l:List SV} {p:List SV×List SV},okL h l->mkB kb w ds l h=some p->okL h p.1∧okL h p.2
 | [],l,p,hl,e=>by cases e;exact⟨by simp[okL],hl⟩
 | none::ds,c::l,p,hl,e=>by
   unfold mkB at e;simp only[okL] at hl;split at e
   ·rename_i q hq;cases e;have ih:=qEU ho hl.2 hq;exact⟨by simp only[okL];exact⟨hl.1,ih.1⟩,ih.2⟩
   ·cases e
 | some k::ds,l,p,hl,e=>by
   unfold mkB at e
   cases hm:zAQ k with
   | true =>
     rw[hm] at e;simp only[cond_true] at e;split at e
     ·simp only[okL] at hl;split at e
      ·rename_i b q hb hq;cases e;have ih:=qEU ho hl.2 hq;exact⟨by simp only[okL];exact⟨by simp[SV.ok],ih.1⟩,ih.2⟩
      ·cases e
     ·cases e
   | false =>
   rw[hm] at e;simp only[cond_false] at e
   cases hpt:Nat.ble qRQ k with
   | true =>
     rw[hpt] at e;simp only[cond_true] at e;split at e
     ·simp only[okL] at hl;split at e
      ·rename_i m el gr g w u xs q hi hk hq;cases e;have ih:=qEU ho hl.2 hq;have hg:=(ho.list _ _ _ _ _ _ _ hk).1;refine⟨?_,ih.2⟩;simp only[okL,SV.ok];exact⟨⟨⟨hg,fun el2 gr2 w2 t2 xs2 hk2=>by rw[hk] at hk2;cases hk2;rfl⟩,by rw[zNY];exact Nat.min_le_right _ _⟩,ih.1⟩
      ·cases e
     ·cases e
   | false =>
   rw[hpt] at e;simp only[cond_false] at e;split at e
   ·rename_i el gr g w u xs hk;split at e
    ·rename_i q hq;cases e;have ih:=qEU ho hl hq;have hg:=(ho.list _ _ _ _ _ _ _ hk).1;refine⟨?_,ih.2⟩;simp only[okL,SV.ok];exact⟨⟨hg,fun el2 gr2 w2 t2 xs2 hk2=>by rw[hk] at hk2;cases hk2;rfl⟩,ih.1⟩
    ·cases e
   ·cases e
 | none::_,[],_,_,e=>by cases e
omit [Yl] in
theorem qNL {h1:SH}:∀ {bs:List (Nat×List (Option Nat))} {l:List SV} {h h2:SH},OkH P h->okL h l->q83 h1 bs l h=some h2->Keep h h2∧OkH P h2∧∀ k,k ∉ bs.map (·.1)->slk k h2.l=slk k h.l
 | [],l,h,h2,ho,hl,e=>by cases e;exact⟨.refl _,ho,fun _ _=>rfl⟩
 | (k,ds)::bs,l,h,h2,ho,hl,e=>by
   unfold q83 at e;split at e
   ·rename_i el w0 l0 hk0;split at e
    ·rename_i p hp;obtain⟨m1,m2⟩:=qEU ho hl hp;have hd:=fI (k:=k) ho;have hn2:=yN (h:=h.del k) (k:=k) (f:=fun v=>.cells el v p.1) hd.2 ⟨rfl,qI hd.1 m1⟩;obtain⟨a1,a2,a3⟩:=qNL hn2.2 (qI hn2.1 (qI hd.1 m2)) e;refine⟨hd.1.trans (hn2.1.trans a1),a2,fun j hj=>?_⟩;rw[zNH,zNF,not_or] at hj;rw[a3 j hj.2];show slk j ((k,_)::(h.del k).l)=_;rw[yC hj.1];exact kM hj.1 _
    ·cases e
   ·cases e
theorem qGG {h h2:SH}(ho:OkH P h)(ho2:OkH P h2){k:Nat}{v:SV}{el:TypeId}{gr:Bool}{g w:Nat}{u:Ty}{xs:List u.sem}(hv:v.ok h)(c:qC1 k v h=true)(hk:slk k h2.l=some (.list el gr g w u xs))(h1:qA k (qD h.l)=some (SO.list el gr g w u xs).enc) :
 v.enc=(SV.own k g xs.length).enc:=by
 unfold qC1 at c;split at c
 ·rename_i k' g' n';rw[zMY] at c;have hkk:k'=k:=zMZ c.1;subst hkk;have c2:=c.2;split at c2
  ·rename_i el3 gr3 g3 w3 u3 xs3 hk3;have hg:g'=g3:=zMZ c2;subst hg;simp only[SV.ok] at hv;have hn:=hv.2 _ _ _ _ _ hk3;rw[zM hk3] at h1;have h1:=zN0 h1;have e1:el3=el:=congrArg PO.el h1
   have e2':xs3.length*u3.w=xs.length*u.w:=by
    have:=congrArg (fun o:PO=>o.cs.length) h1;simp only[qR] at this;exact this
   have l1:=ho.list _ _ _ _ _ _ _ hk3;have l2:=ho2.list _ _ _ _ _ _ _ hk
   have hww:u3.w=u.w:=by
    have a1:=l1.2.1;have a2:=l2.2.1;rw[e1,a2] at a1;exact (zN0 a1).symm
   have hlen:xs3.length=xs.length:=by
    rw[hww] at e2';exact Nat.eq_of_mul_eq_mul_right l2.2.2 e2'
   simp only[SV.enc,hn,hlen]
  ·cases c2
 ·cases c
theorem qBM {kb w:Nat}{hn h:SH}(hon:OkH P hn)(ho:OkH P h):∀ {ds:List (Option Nat)} {l ln dl rest:List SV} {p:List SV×List SV},mkB kb w ds l h=some p->qYQ kb w ds ln=some dl->q3L ds ln hn=true->qB (dl++rest)=qB l->okL hn ln ->
 (∀ k o,some k∈ds->slk (q28 k) h.l=some o->qA (q28 k) (qD hn.l)=some o.enc)->qB p.1=qB ln∧qB p.2=qB rest
 | [],l,ln,dl,rest,p,e,ec,eo,hl,hok,hq=>by
   cases e
   cases ln with
   | nil=>cases ec;exact⟨rfl,hl.symm⟩
   | cons _ _=>cases ec
 | none::ds,c::l,ln,dl,rest,p,e,ec,eo,hl,hok,hq=>by
   unfold mkB at e;split at e
   ·rename_i q hm;cases e
    cases ln with
    | nil=>cases ec
    | cons v ln =>
      unfold qYQ at ec;split at ec
      ·rename_i r hr;cases ec;simp only[zPD,qB,zNW] at hl;simp only[okL] at hok;obtain⟨a1,a2⟩:=qBM hon ho hm hr (by unfold q3L at eo;exact eo) hl.2 hok.2 fun k o hk ho=>hq k o (zM3 _ hk) ho
       exact⟨by simp only[qB,a1,hl.1],a2⟩
      ·cases ec
   ·cases e
 | some k::ds,l,ln,dl,rest,p,e,ec,eo,hl,hok,hq=>by
   unfold mkB at e
   cases hmk:zAQ k with
   | true =>
     rw[hmk] at e;simp only[cond_true] at e;split at e
     case h_2=>cases e
     rename_i c l';split at e
     case h_2=>cases e
     rename_i b q hb hm;cases e
     cases ln with
     | nil=>cases ec
     | cons v ln =>
       unfold qYQ at ec;rw[hmk] at ec;simp only[cond_true] at ec;split at ec
       case h_2=>cases ec
       rename_i b2 r hb2 hr;cases ec;simp only[okL] at hok;unfold q3L at eo;rw[zMY] at eo;simp only[zPD,qB,zNW] at hl;obtain⟨a1,a2⟩:=qBM hon ho hm hr eo.2 hl.2 hok.2 fun k o hk ho=>hq k o (zM3 _ hk) ho
       refine⟨?_,a2⟩
       have hbb:b2=b:=by
        have:=hl.1;rw[rG hb] at this;simp only[SV.enc,Ty.fv,fvv] at this;injection this with this;injection this with this;injection this
       simp only[qB,a1,qZN hb2,hbb]
   | false =>
   rw[hmk] at e;simp only[cond_false] at e
   cases hpt:Nat.ble qRQ k with
   | true =>
     have hun:q28 k=k - qRQ:=by unfold q28;rw[hpt,cond_true]
     rw[hpt] at e;simp only[cond_true] at e;split at e
     case h_2=>cases e
     rename_i c l';split at e
     case h_2=>cases e
     rename_i m el gr g w u xs q hi hk hm;cases e
     cases ln with
     | nil=>cases ec
     | cons v ln =>
       unfold qYQ at ec;rw[hmk,hpt] at ec;simp only[cond_true,cond_false] at ec;split at ec
       case h_2=>cases ec
       rename_i m2 r hm2 hr;cases ec;simp only[okL] at hok;unfold q3L at eo;rw[hmk,hpt,zMY] at eo;simp only[cond_true,cond_false] at eo;simp only[zPD,qB,zNW] at hl;obtain⟨a1,a2⟩:=qBM hon ho hm hr eo.2 hl.2 hok.2 fun k o hk ho=>hq k o (zM3 _ hk) ho
       refine⟨?_,a2⟩
       have hmm:(m2:Int)=m:=by
        have:=hl.1;rw[yD hi] at this;simp only[SV.enc,Ty.fv,fvv] at this;injection this with this;injection this with this;injection this
       have hpl:=hq k _ zM5 (by rw[hun];exact hk);rw[hun] at hpl;simp only[qB,a1]
       congr 1
       have fin:∀ {k' g' n':Nat},qXO hn k' g' n'->qC1 (k - qRQ) (.own k' g' n') hn=true->m2<=n'->(SV.sl (k - qRQ) g xs.length 0 (Nat.min m.toNat xs.length)).enc=PV.own k' n' 0 m2:=fun {k' g' n'} h1 h2 h3=>by
        have:=qGG hon ho (v:=.own k' g' n') (by simp only[SV.ok];exact h1) h2 hk hpl;simp only[SV.enc] at this;injection this with b1 b2 b3 b4
        have hmin:Nat.min m.toNat xs.length=m2:=by
         rw[<-hmm,zPO];exact zOP (by omega)
        simp only[SV.enc,hmin,b1,b2]
       have e1:=eo.1;have o1:=hok.1;unfold q34 at e1;unfold zAH at hm2;split at e1
       ·cases hm2;simp only[SV.ok] at o1;rw[fin o1 e1 (zM0 _)];simp only[SV.enc]
       ·rename_i k' g' n' o' m'
        cases h0:Nat.beq o' 0 with
        | false=>simp only[h0,cond_false] at hm2;cases hm2
        | true =>
          simp only[h0,cond_true] at hm2;cases hm2;have h0:=zMZ h0;subst h0;simp only[SV.ok] at o1;rw[fin o1.1 e1 (by omega)];simp only[SV.enc]
       ·cases e1
   | false =>
   have hun:q28 k=k:=by unfold q28;rw[hpt,cond_false]
   rw[hpt] at e;simp only[cond_false] at e;split at e
   ·rename_i el gr g w u xs hk;split at e
    ·rename_i q hm;cases e
     cases ln with
     | nil=>cases ec
     | cons v ln =>
       unfold qYQ at ec;rw[hmk,hpt] at ec;simp only[cond_false] at ec;simp only[okL] at hok;unfold q3L at eo;rw[hmk,hpt,zMY] at eo;simp only[cond_false] at eo;obtain⟨a1,a2⟩:=qBM hon ho hm ec eo.2 hl hok.2 fun k o hk ho=>hq k o (zM3 _ hk) ho
       refine⟨?_,a2⟩;simp only[qB,a1];rw[qGG hon ho hok.1 eo.1 hk (by have:=hq k _ zM5 (by rw[hun];exact hk);rw[hun] at this;exact this)]
    ·cases e
   ·cases e
 | none::_,[],_,_,_,_,e,_,_,_,_,_=>by cases e
theorem qQD {hn h1:SH}{L:List Nat}(hon:OkH P hn):∀ {bs:List (Nat×List (Option Nat))} {l c rest:List SV} {h h2:SH},OkH P h->okL h l->q83 h1 bs l h=some h2->qYR bs hn=some c->qB (c++rest)=qB l->mM L bs h1 hn=true ->
 (∀ k o,slk k h.l=some o->k ∉ bs.map (·.1)->qA k (qD hn.l)=some o.enc)->(∀ k o,slk k h.l=some o->k ∉ L->qA k (qD hn.l)=some o.enc)->∀ k o,slk k h2.l=some o->qA k (qD hn.l)=some o.enc
 | [],l,c,rest,h,h2,ho,hl,e,ec,hc,hb,hq,_,k,o,hk=>by
   cases e;exact hq k o hk (by simp)
 | (j,ds)::bs,l,c,rest,h,h2,ho,hl,e,ec,hc,hb,hq,hqL,k,o,hk=>by
   unfold mM at hb;rw[zOD,zMY,zMY,zMY] at hb;obtain⟨⟨b0,b1,b2⟩,b3⟩:=hb;unfold q83 at e;split at e
   case h_2=>cases e
   rename_i el w0 l0 hk0;split at e
   case h_2=>cases e
   rename_i p hp;rw[hk0] at b2;simp only at b2;unfold qYR at ec;split at ec
   case h_2=>cases ec
   rename_i el2 w2 ln hkn;rw[hkn] at b2;simp only[zMY] at b2;split at ec
   case h_2=>cases ec
   rename_i a b ha hb2;cases ec;have hel:el=el2:=zMZ b2.1;subst hel;obtain⟨m1,m2⟩:=qEU ho hl hp
   obtain⟨q1,q2⟩:=qBM hon ho hp ha b2.2 (rest:=b++rest) (by rw[<-zNN];exact hc) (hon.cells _ _ _ _ hkn) (fun k o hk ho2=>hqL (q28 k) o ho2 fun hm=>by
    have:=zM1.1 b1 (some k) hk;simp only[xH.2 hm] at this
    cases this)
   have hd:=fI (k:=j) ho;have hn2:=yN (h:=h.del j) (k:=j) (f:=fun v=>.cells el v p.1) hd.2 ⟨rfl,qI hd.1 m1⟩
   have look:∀ i,i≠j->slk i ((h.del j).new j fun v=>.cells el v p.1).l=slk i h.l:=fun i hi=>by
    show slk i ((j,_)::(h.del j).l)=_;rw[yC hi];exact kM hi _
   have zJW:slk j ((h.del j).new j fun v=>.cells el v p.1).l=some (.cells el (h.del j).next p.1):=kU
   have zGS:qA j (qD hn.l)=some (SO.cells el (h.del j).next p.1).enc:=by
    rw[zM hkn];simp[SO.enc,q1]
   refine qQD hon (bs:=bs) (c:=b) (rest:=rest) hn2.2 (qI hn2.1 (qI hd.1 m2)) e hb2 q2.symm b3 (fun i o2 hi hni=>?_) (fun i o2 hi hni=>?_) k o hk
   ·by_cases hij:i=j
    ·subst hij;rw[zJW] at hi;cases hi;exact zGS
    ·rw[look i hij] at hi;exact hq i o2 hi (by rw[zNH,zNF,not_or];exact⟨hij,hni⟩)
   ·by_cases hij:i=j
    ·subst hij;rw[zJW] at hi;cases hi;exact zGS
    ·rw[look i hij] at hi;exact hqL i o2 hi hni
end
end Go.Sv
namespace Go.Sv
open Go.Idl
noncomputable section
variable [Gc]
variable [Yl]
variable {P:Program}{R:Type}{r:R}{nm:Nm}
def qSV (os:List (Nat×Bool))(h:SH):Bool:=os.all fun p=>match slk p.1 h.l with
 | some ob=>(match obD ob with
   | some q=>q.2==p.2
   | none=>false)
 | none=>false
def qI0 (l:List (Nat×Nat))(env:List SV)(h:SH):Bool:=l.all fun p=>cond (Nat.ble mkM p.2) (match zJ env p.1 with
 | some (.mp k)=>Nat.beq k (p.2 - mkM)
 | _=>false) (match zJ env p.1 with
 | some (.own k g _)=>Nat.beq k p.2&&(match slk k h.l with
   | some (.list _ _ g' _ _ _)=>Nat.beq g g'
   | _=>false)
 | _=>false)
def dW (ls:List Nat)(hh h:SH):Bool:=hh.l.all fun p=>oW p.1 ls||(match slk p.1 h.l with
 | some o=>Nat.beq o.w p.2.w||(match slk p.1 hh.l with
   | some q=>Nat.beq o.w q.w
   | none=>false)
 | none=>false)
omit [Yl] in
theorem qMC {k:Nat}{o:SO}:∀ {l:List (Nat×SO)},slk k l=some o->(k,o)∈l
 | (j,p)::l,h=>by
   have h1:cond (k==j) (some p) (slk k l)=some o:=h;clear h
   cases hj:k==j with
   | true =>
     rw[hj] at h1;have h2:p=o:=zN0 h1;have:k=j:=by simpa using hj
     rw[this,h2];exact zM5
   | false =>
     rw[hj] at h1;exact zM3 _ (qMC (l:=l) h1)
omit [Yl] in
theorem qGX:∀ {ks:List Nat} {h:SH} {os:List (Nat×Bool)},q5Y ks h=some os->os.map (·.1)=ks
 | [],h,os,e=>by cases e;rfl
 | k::ks,h,os,e=>by
   unfold q5Y at e;split at e
   ·rename_i hk hl;split at e
    ·cases e;rw[zNH,qGX hl]
    ·cases e
   ·cases e
omit [Yl] in
theorem qNQ:∀ {ks:List Nat} {h:SH} {os:List (Nat×Bool)},q5Y ks h=some os->qSV os h=true
 | [],h,os,e=>by cases e;rfl
 | k::ks,h,os,e=>by
   unfold q5Y at e;split at e
   ·rename_i ob os' hk hl;split at e
    ·rename_i p hp;cases e;have ih:=qNQ hl;unfold qSV at ih ⊢;rw[zOD,ih];simp only[hk,hp];simp
    ·cases e
   ·cases e
omit [Yl] in
theorem qWG:∀ {ks:List Nat} {h:SH} {b:List SV},qSQ ks h=some b->∀ (i:Nat) k,ks[i]?=some k->∃ ob p,slk k h.l=some ob∧obD ob=some p∧b[i]?=some p.1
 | [],h,b,e,i,k,hk=>by simp at hk
 | j::ks,h,b,e,i,k,hk=>by
   unfold qSQ at e;split at e
   ·rename_i ob l hj hl;split at e
    ·rename_i p hp;cases e
     cases i with
     | zero =>
       simp at hk;subst hk;exact⟨ob,p,hj,hp,rfl⟩
     | succ i=>exact qWG hl i k (by simpa using hk)
    ·cases e
   ·cases e
omit [Yl] in
theorem qN5:∀ {ks:List Nat} {h:SH} {b:List SV},qSQ ks h=some b->b.length=ks.length
 | [],h,b,e=>by cases e;rfl
 | k::ks,h,b,e=>by
   unfold qSQ at e;split at e
   ·rename_i hk hl;split at e
    ·cases e;simp only[zNZ,qN5 hl]
    ·cases e
   ·cases e
theorem qNA {h h2:SH}{env:List SV}(ho:OkH P h)(ho2:OkH P h2)(hs:∀ k o,slk k h2.l=some o->qA k (qD h.l)=some o.enc)(hen:okL h env):∀ {l:List (Nat×Nat)} {m e2:List SV},qI0 l env h=true->q3C l h2 m=some e2->WkP (qB env) (qB m)->WkP (qB env) (qB e2)
 | [],m,e2,_,e,hw=>by cases e;exact hw
 | (i,k)::l,m,e2,hc,e,hw=>by
   unfold qI0 at hc;rw[zOD,zMY] at hc;unfold q3C at e;have c0:=hc.1;simp only at c0
   cases hmk:Nat.ble mkM k with
   | true =>
     rw[hmk] at e c0;simp only[cond_true] at e c0;refine qNA ho ho2 hs hen hc.2 e ?_;split at c0
     ·rename_i k' hi;have hkk:=zMZ c0;rw[xW];refine qHF hw ?_;rw[qU,hi,hkk];rfl
     ·cases c0
   | false =>
   rw[hmk] at e c0;simp only[cond_false] at e c0;split at e
   ·rename_i el gr g w u xs hk;refine qNA ho ho2 hs hen hc.2 e ?_;have c1:=c0;split at c1
    ·rename_i k' g' n' hi;have c3:qC1 k (.own k' g' n') h=true:=c1;rw[xW];refine qHF hw ?_;rw[qU,hi];show some (SV.own k' g' n').enc=_;rw[qGG ho ho2 (eZ hen hi) c3 hk (hs k _ hk)]
    ·cases c1
   ·cases e
theorem qQM {W:List Nat}{sh:Sh}{ts:List Ty}{os:List (Nat×Bool)}{zFG e2 b c:List SV}{h1 h h2:SH}{s:TyL ts}(ho:OkH P h)(ho1:OkH P h1)
 (hb:qSQ sh.o h=some b) (hcB:qYR sh.b h=some c) (w2:qB (dG sh.d (svL ts s) (blank W 0 zFG)).2=qB (b++c)) (hm:mkS P W sh ts os zFG h1 s=some (e2,h2)) (hos:os.map (·.1)=sh.o) (hgr:qSV os h=true) (hbx:mM (sh.b.map (·.1)) sh.b h1 h=true)
 (hkept:∀ k o,k ∉ sh.o->k ∉ sh.b.map (·.1)->slk k h1.l=some o->qA k (qD h.l)=some o.enc) :
 OkH P h2∧q3C sh.s h2 (dG sh.d (svL ts s) (blank W 0 zFG)).1=some e2∧∀ k o,slk k h2.l=some o->qA k (qD h.l)=some o.enc:=by
 unfold mkS at hm;split at hm
 case h_2=>cases hm
 rename_i h3 hso;split at hm
 case h_2=>cases hm
 rename_i h4 hsb;split at hm
 case h_2=>cases hm
 rename_i e3 hss;cases hm;have hlen:os.length=b.length:=by rw[qN5 hb,<-hos,zNA]
 have t1:qB ((dG sh.d (svL ts s) (blank W 0 zFG)).2.take os.length)=qB b:=by
  rw[qTJ,w2,zD,zD,zN6,hlen,<-zNA (as:=b) (f:=SV.enc),List.take_left]
 have t2:qB ((dG sh.d (svL ts s) (blank W 0 zFG)).2.drop os.length)=qB c:=by
  rw[qXH,w2,zD,zD,zN6,hlen,<-zNA (as:=b) (f:=SV.enc),List.drop_left]
 have zJX:∀ k o,¬ k∈sh.b.map (·.1)->slk k h3.l=some o->qA k (qD h.l)=some o.enc:=by
  refine qPQ (B:=fun k=>k∈sh.b.map (·.1)) hso (fun k o hB hk hk2=>hkept k o (by rw[<-hos];exact hk) hB hk2) ?_;intro i k gr x hi hx;have hki:sh.o[i]?=some k:=by rw[<-hos,zNC,hi];rfl
  obtain⟨ob,p,q1,q0,q2⟩:=qWG hb i k hki
  have hce:x.enc=p.1.enc:=by
   have e1:(qB b)[i]?=some p.1.enc:=by rw[zD,zNC,q2];rfl
   rw[<-t1,zD,zNC,hx] at e1;exact zN0 e1
  have hg:p.2=gr:=by
   unfold qSV at hgr;have:=zM1.1 hgr (k,gr) (zN5 hi);simp only[q1,q0] at this;simpa using this
  rw[hce,zM q1,<-hg,zDG q0]
 obtain⟨k3,ho3,_⟩:=qLU ho1 hso;have hrest:okL h3 ((dG sh.d (svL ts s) (blank W 0 zFG)).2.drop os.length):=qO8 _ (qA7 (qB3 ts s));have hsub:=qQD (L:=sh.b.map (·.1)) ho (c:=c) (rest:=[]) ho3 hrest hsb hcB (by rw[zOT];exact t2.symm) hbx (fun k o hk hn=>zJX k o hn hk) (fun k o hk hn=>zJX k o hn hk);obtain⟨_,ho4,_⟩:=qNL ho3 hrest hsb;exact⟨ho4,hss,hsub⟩
theorem qAT {h h2:SH}(hsub:∀ k o,slk k h2.l=some o->qA k (qD h.l)=some o.enc):qBO (qD h2.l) (qD h.l):=fun k ob hk=>by
 rw[vC] at hk;obtain⟨o,h1,h2⟩:=zM8.1 hk;rw[hsub k o h1,h2]
theorem q19 {W:List Nat}{sh:Sh}{ts:List Ty}{os:List (Nat×Bool)}{zFG env e2 a b c:List SV}{h1 h h2:SH}{s:TyL ts}(ho:OkH P h)(ho1:OkH P h1)(hen:okL h env)
 (ha:qFN sh.d env=some a) (hb:qSQ sh.o h=some b) (hcB:qYR sh.b h=some c) (hd:sQ ts (a++(b++c))=some s) (hm:mkS P W sh ts os zFG h1 s=some (e2,h2)) (hos:os.map (·.1)=sh.o) (hgr:qSV os h=true) (hown:qI0 sh.s env h=true) (hbx:mM (sh.b.map (·.1)) sh.b h1 h=true)
 (hkept:∀ k o,k ∉ sh.o->k ∉ sh.b.map (·.1)->slk k h1.l=some o->qA k (qD h.l)=some o.enc) (hbl:WkP (qB env) (qB (blank W 0 zFG))) :
 WkP (qB env) (qB e2)∧qBO (qD h2.l) (qD h.l):=by
 have hde:=aN hd;obtain⟨w1,w2⟩:=qLH (m:=svL ts s) ha hde hbl;obtain⟨ho4,hss,hsub⟩:=qQM ho ho1 hb hcB w2 hm hos hgr hbx hkept;exact⟨qNA ho ho4 hsub hen hown hss w1,qAT hsub⟩
theorem uS {W:List Nat}{sh:Sh}{ts:List Ty}{os:List (Nat×Bool)}{zFG e2:List SV}{h1 h2:SH}{s:TyL ts}(ho1:OkH P h1)(he1:okL h1 zFG)(hm:mkS P W sh ts os zFG h1 s=some (e2,h2)) :
 Keep h1 h2∧OkH P h2∧okL h2 e2∧e2.length=zFG.length∧(∀ j,j ∉ W->j ∉ sh.d->j ∉ sh.s.map (·.1)->zJ (qB e2) j=zJ (qB zFG) j)∧∀ k,k ∉ os.map (·.1)->k ∉ sh.b.map (·.1)->slk k h2.l=slk k h1.l:=by
 unfold mkS at hm;split at hm
 case h_2=>cases hm
 rename_i h3 hso;split at hm
 case h_2=>cases hm
 rename_i h4 hsb;split at hm
 case h_2=>cases hm
 rename_i e3 hss;cases hm;obtain⟨a1,a2,a3⟩:=qLU ho1 hso;have hrest:okL h3 ((dG sh.d (svL ts s) (blank W 0 zFG)).2.drop os.length):=qO8 _ (qA7 (qB3 ts s));obtain⟨c1,c2,c3⟩:=qNL a2 hrest hsb;have hok:okL h2 (dG sh.d (svL ts s) (blank W 0 zFG)).1:=qLQ (qB3 ts s) (qO1 (qI c1 (qI a1 he1)));obtain⟨b1,b2,b3⟩:=qLT c2 hok hss;refine⟨a1.trans c1,c2,b1,by rw[b2,qHH,qBI],fun j hj hjd hjs=>?_,fun k hk hk2=>(c3 k hk2).trans (a3 k hk)⟩;rw[qU,qU,b3 j hjs,qGJ hjd,qCF]
 have:oW (0+j) W=false:=by
  cases hq:oW (0+j) W with
  | false=>rfl
  | true=>rw[zNY] at hq;exact absurd (xH.1 hq) hj
 rw[this];cases zJ zFG j <;> rfl
theorem qAC {W:List Nat}{env zFG:List SV}(hl:env.length=zFG.length)(h:∀ i,i ∉ W->zJ (qB env) i=zJ (qB zFG) i):WkP (qB env) (qB (blank W 0 zFG)):=by
 refine qPC (by rw[qP,qP,qBI,hl]) fun i=>?_
 rw[qU (blank W 0 zFG),qCF,zNY]
 cases hq:oW i W with
 | true =>
   cases hx:zJ zFG i with
   | none =>
     left
     have:zJ env i=none:=by
      rw[qG] at hx ⊢;rw[zPZ] at hx ⊢;omega
     rw[qU,this];rfl
   | some x=>right;simp[SV.enc]
 | false =>
   left
   have hni:i ∉ W:=fun hm=>by
    rw[xH.2 hm] at hq;cases hq
   rw[h i hni,qU zFG];cases zJ zFG i <;> rfl
end
end Go.Sv
namespace Go.Sv
open Go.Idl
noncomputable section
abbrev vQ (Γ:Option Type)(R:Type):=zGB->GV Γ->List SV->SH->zE9 R
def zE9.sum {R:Type}{α β:Type}(x:α⊕β)(f:α->zE9 R)(g:β->zE9 R):zE9 R:=Sum.rec f g x
variable [Gc]
variable [Yl]
variable {P:Program}{Γ:Option Type}{R:Type}{r:R}{nm:Nm}{G:Nat->Bool}{rd:Bool}{N:Nat}{rs:List Ty}{wd:Wld (GV Γ)}
def EQ (P:Program)(N:Nat)(w:List Nat)(env:List SV)(h:SH)(K:vQ Γ R)(r:R):YQ (GV Γ):=fun e g pe ph =>
 ∃ env' h',pe=qB env'∧ph=qD h'.l∧okL h' env'∧OkH P h'∧env'.length=N∧Keep h h'∧(e≠.ret->xJ P w env h env' h')∧(K e g env' h').run=some r
def zEL (id:Nat)(K:vQ Γ R):vQ Γ R:=fun e g env h=>match e with
 | .exit i=>cond (Nat.beq i id) (K .normal g env h) (K (.exit i) g env h)
 | e=>K e g env h
def q68:List Nat->Nat->(Nat->zE9 R)->zE9 R
 | [],_,_=>.fail
 | a::l,j,K=>.ite (Nat.beq j a) (K a) (q68 l j K)
omit [Yl] in
theorem qQK:∀ {l:List Nat} {j:Nat} {K:Nat->zE9 R},(q68 l j K).run=some r->(K j).run=some r
 | [],j,K,e=>by cases e
 | a::l,j,K,e=>by
   rcases run_ite e with ⟨z,e1⟩ | ⟨z,e1⟩
   ·rw[zMZ z];exact e1
   ·exact qQK e1
def bk (sh:Sh)(os:List (Nat×Bool))(ts:List Ty)(mk:TyL ts->Option (List SV×SH))(h1 hh:SH)(env:List SV)(h:SH):Option (TyL ts):=match qFN sh.d env,qSQ sh.o h,qYR sh.b h with
 | some a,some b,some c=>(match sQ ts (a++(b++c)) with
   | some s=>cond (qSV os h&&(qI0 sh.s env h&&(mM (sh.b.map (·.1)) sh.b h1 h&&(dW (sh.o++sh.b.map (·.1)) hh h&&(mk s).isSome)))) (some s) none
   | none=>none)
 | _,_,_=>none
def mkL:Nat:=2000000000000000
def lbL (y:Nat):Nat:=y - mkL
def oZ:List (Nat×TypeId)->List SV->SH->List SV->List SV
 | [],_,_,e=>e
 | (i,y)::l,e0,h,e=>cond (Nat.ble mkL y) (match slk (lbL y) h.l,zJ e0 i with
   | some (.list _ _ g _ _ xs),some (.sl _ _ _ o m)=>oZ l e0 h (yQ e i (.sl (lbL y) g (List.length xs) o m))
   | _,_=>oZ l e0 h e) (oZ l e0 h e)
def slG:List (Nat×TypeId)->List SV->SH->Bool
 | [],_,_=>true
 | (i,y)::l,e0,h=>cond (slG l e0 h) (cond (Nat.ble mkL y) (match slk (lbL y) h.l,zJ e0 i with
   | some (.list _ _ _ _ _ xs),some (.sl _ _ _ o m)=>Nat.ble (o+m) (List.length xs)
   | _,_=>false) true) false
def zEQ (k:Nat)(v:SV)(h:SH):Bool:=match v with
 | .sl k' g n _ _=>qC1 k (.own k' g n) h
 | _=>false
def q37 (l:List (Nat×TypeId))(env:List SV)(h:SH):Bool:=l.all fun p=>cond (Nat.ble mkL p.2) (match zJ env p.1 with
 | some v=>zEQ (lbL p.2) v h
 | none=>false) true
def slW (wb:List Nat)(l:List (Nat×TypeId)):Bool:=l.all fun p=>cond (Nat.ble mkL p.2) (!oW p.1 wb) true
def isP (k o m:Nat)(x:Option SV):Prop:=∃ g n,x=some (.sl k g n o m)
omit [Yl] in
theorem qQH {k o m j g0 n0 k0:Nat}{e0:List SV}{h:SH}(h0:zJ e0 j=some (.sl k0 g0 n0 o m)):∀ {l:List (Nat×TypeId)} {e:List SV},(∀ y,(j,y)∈l->Nat.ble mkL y=true->lbL y=k)->isP k o m (zJ e j)->isP k o m (zJ (oZ l e0 h e) j)
 | [],e,_,he=>he
 | (i,y)::l,e,hy,he=>by
   have ih:=fun {e:List SV}=>qQH (k:=k) (h:=h) h0 (l:=l) (e:=e) fun y hm=>hy y (zM3 _ hm)
   unfold oZ
   cases hb:Nat.ble mkL y with
   | false=>exact ih he
   | true =>
     simp only[cond_true];split
     ·rename_i hk hi;refine ih ?_;by_cases hij:i=j
      ·subst hij;rw[h0] at hi;cases hi;rw[hy y zM5 hb];obtain⟨g,n,h2⟩:=he
       have hlt:i < e.length:=by
        rw[qG] at h2;exact (zM6.1 h2).1
       exact⟨_,_,by rw[qV,qG,List.getElem?_set_self hlt]⟩
      ·rw[qV,qG,zRB hij,<-qG];exact he
     ·exact ih he
omit [Yl] in
theorem qPT {k o m j y0 g0 n0 k0:Nat}{e0:List SV}{h:SH}(h0:zJ e0 j=some (.sl k0 g0 n0 o m)):∀ {l:List (Nat×TypeId)} {e:List SV},(∀ y,(j,y)∈l->Nat.ble mkL y=true->lbL y=k)->(j,y0)∈l->Nat.ble mkL y0=true->slG l e0 h=true->j < e.length->isP k o m (zJ (oZ l e0 h e) j)
 | (i,y)::l,e,hy,hm,hy0,hg,hlt=>by
   have hy':∀ y,(j,y)∈l->Nat.ble mkL y=true->lbL y=k:=fun y hm=>hy y (zM3 _ hm)
   unfold slG at hg
   cases hgl:slG l e0 h with
   | false=>rw[hgl] at hg;cases hg
   | true =>
   rw[hgl,cond_true] at hg;have len:∀ {x:SV},j < (yQ e i x).length:=fun {x}=>by rw[jH];exact hlt
   rcases zNF.1 hm with hq | hq
   ·cases hq;unfold oZ;rw[hy0,cond_true] at hg ⊢;split at hg
    ·rename_i el gr g w t xs k2 g2 n2 o2 m2 hk hi;rw[h0] at hi;cases hi;refine qQH h0 hy' ?_;rw[hy y0 zM5 hy0];exact⟨_,_,by rw[qV,qG,List.getElem?_set_self hlt]⟩
    ·cases hg
   ·unfold oZ
    cases hb:Nat.ble mkL y with
    | false=>exact qPT h0 hy' hq hy0 hgl hlt
    | true =>
      simp only[cond_true];split
      ·exact qPT h0 hy' hq hy0 hgl len
      ·exact qPT h0 hy' hq hy0 hgl hlt
omit [Yl] in
theorem qIR {j:Nat}{e0:List SV}{h:SH}:∀ {l:List (Nat×TypeId)} {e:List SV},j ∉ l.map (·.1)->zJ (oZ l e0 h e) j=zJ e j
 | [],e,_=>rfl
 | (i,y)::l,e,hj=>by
   rw[zNH,zNF,not_or] at hj;unfold oZ
   cases Nat.ble mkL y with
   | false=>exact qIR hj.2
   | true =>
     simp only[cond_true];split
     ·rw[qIR hj.2,qV,qG,zRB (fun q=>hj.1 q.symm),<-qG]
     ·exact qIR hj.2
omit [Yl] in
theorem qVX {e0:List SV}{h:SH}(ho:OkH P h):∀ {l:List (Nat×TypeId)} {e:List SV},okL h e->slG l e0 h=true->okL h (oZ l e0 h e)∧(oZ l e0 h e).length=e.length
 | [],e,he,_=>⟨he,rfl⟩
 | (i,y)::l,e,he,hg=>by
   unfold slG at hg
   cases hgl:slG l e0 h with
   | false=>rw[hgl] at hg;cases hg
   | true =>
   rw[hgl,cond_true] at hg;unfold oZ
   cases hb:Nat.ble mkL y with
   | false=>exact qVX ho he hgl
   | true =>
     rw[hb,cond_true] at hg;simp only[cond_true];split at hg
     ·rename_i el gr g w t xs k' g' n' o m hk hi
      have hv:(SV.sl (lbL y) g (List.length xs) o m).ok h:=by
       simp only[SV.ok];refine⟨⟨(ho.list _ _ _ _ _ _ _ hk).1,fun el2 gr2 w2 t2 xs2 h2=>?_⟩,zM9 hg⟩;rw[hk] at h2;cases h2;rfl
      obtain⟨a1,a2⟩:=qVX ho (y9 (t:=i) he hv) hgl;exact⟨a1,a2.trans (jH _ _ _)⟩
     ·cases hg
theorem qX1 {h h3:SH}{env e0:List SV}(ho:OkH P h)(ho3:OkH P h3)(hs:qBO (qD h3.l) (qD h.l))(hen:okL h env):∀ {l:List (Nat×TypeId)} {m:List SV},q37 l env h=true ->
 (∀ i y k g n o q,(i,y)∈l->Nat.ble mkL y=true->zJ e0 i=some (.sl k g n o q)->∃ k' g' n',zJ env i=some (.sl k' g' n' o q))->WkP (qB env) (qB m)->WkP (qB env) (qB (oZ l e0 h3 m))
 | [],m,_,_,hw=>hw
 | (i,y)::l,m,hc,hom,hw=>by
   unfold q37 at hc;rw[zOD,zMY] at hc;have zMB:=fun i y k g n o q hm=>hom i y k g n o q (zM3 _ hm)
   have ih:=fun {m:List SV}=>qX1 ho ho3 hs hen (l:=l) (m:=m) hc.2 zMB
   unfold oZ
   cases hb:Nat.ble mkL y with
   | false=>exact ih hw
   | true =>
     have c0:=hc.1;simp only[hb,cond_true] at c0 ⊢;split
     ·rename_i el gr g w t xs k0 g0 n0 o q hk hi;refine ih ?_;obtain⟨k',g',n',hi2⟩:=hom i y _ _ _ _ _ zM5 hb hi;rw[hi2] at c0;have c3:qC1 (lbL y) (.own k' g' n') h=true:=c0
      have hv:(SV.own k' g' n').ok h:=by
       have:=eZ hen hi2;simp only[SV.ok] at this ⊢;exact this.1
      have he:=qGG ho ho3 hv c3 hk (hs _ _ (zM hk));rw[xW];refine qHF hw ?_;rw[qU,hi2,zNE];simp only[SV.enc,PV.own.injEq] at he ⊢;obtain⟨e1,e2,_,_⟩:=he;rw[e1,e2]
     ·exact ih hw
theorem qX0 {l:List (Nat×TypeId)}{env:List SV}{h:SH}(hc:q37 l env h=true){i y:Nat}(hm:(i,y)∈l)(hb:Nat.ble mkL y=true):∃ g n o q,zJ env i=some (.sl (lbL y) g n o q):=by
 unfold q37 at hc;have:=zM1.1 hc (i,y) hm;simp only[hb,cond_true] at this;split at this
 ·rename_i v hv;unfold zEQ at this;split at this
  ·rename_i k g n o q;unfold qC1 at this;simp only[zMY] at this;have hk:=zMZ this.1;rw[hk] at hv;exact⟨g,n,o,q,hv⟩
  ·exact absurd this zPT
 ·exact absurd this zPT
def qW9 (rdv:List SV->SH->Option (TyL rs))(id:Nat)(sh:Sh)(os:List (Nat×Bool))(ts:List Ty)(mk:TyL ts->Option (List SV×SH))(h1 hh:SH):vQ Γ (GS Γ (TyL ts)⊕(GS Γ (TyL ts)⊕(GS Γ (TyL rs)⊕GS Γ (Nat×TyL ts)))):=fun e g env h=>match e with
 | .normal=>cond (q37 sh.v env h) (match bk sh os ts mk h1 hh env h with
   | some s=>.ret (.inl (gj g s))
   | none=>.fail) .fail
 | .exit j=>cond (q37 sh.v env h) (match bk sh os ts mk h1 hh env h with
   | some s=>.ret (.inr (cond (Nat.beq j id) (.inl (gj g s)) (.inr (.inr (gj g (j,s))))))
   | none=>.fail) .fail
 | .ret=>(match rdv env h with
   | some v=>.ret (.inr (.inr (.inl (gj g v))))
   | none=>.fail)
 | .goto _=>.fail
def goS {α:Type}(o:Option (α×SH))(K:α->SH->zE9 R):zE9 R:=match o with
 | some p=>K p.1 p.2
 | none=>.fail
omit [Yl] in
theorem mW {α:Type}{o:Option (α×SH)}{K:α->SH->zE9 R}(e:(goS o K).run=some r):∃ a h,o=some (a,h)∧(K a h).run=some r:=by
 unfold goS at e;split at e
 ·exact⟨_,_,rfl,e⟩
 ·cases e
def zAE (P:Program)(nm:Nm)(wb w:List Nat)(rdv:List SV->SH->Option (TyL rs))(en:TyL rs->List SV)(hb:SH)(sh:Sh)(id:Nat)(body:∀ {R':Type},GV Γ->List SV->SH->vQ Γ R'->zE9 R')(g:GV Γ)(env:List SV)(h:SH)(K:vQ Γ R):zE9 R :=
 qQ6 P nm sh.v env h fun zFG h0=>qW1 P nm (sh.b.map (·.1)) sh.bv zFG h0 fun zFG h1=>match qFN sh.d zFG,qSQ sh.o h1,qYR sh.b h1,q5Y sh.o h1 with
  | some a,some b,some c,some os=>(match zCT (a++(b++c)) with
    | some ts=>(match sQ ts (a++(b++c)) with
      | some s0=>cond ((qI0 sh.s zFG h1&&mM (sh.b.map (·.1)) sh.b h1 h1)&&(q37 sh.v zFG h1&&slW wb sh.v))
         (.loop (fun s=>goS (mkS P w sh ts os zFG h1 (g2 s)) fun e hh=>.ite (slG sh.v zFG hh) (body (g1 s) (oZ sh.v zFG hh e) hh (qW9 rdv id sh os ts (mkS P w sh ts os zFG h1) h1 hh)) .fail) (gj g s0)
           fun q=>zE9.sum q (fun s=>goS (mkS P w sh ts os zFG h1 (g2 s)) fun e hh=>.ite (slG sh.v zFG hh) (K .normal (g1 s) (oZ sh.v zFG hh e) hh) .fail)
            fun q2=>zE9.sum q2 (fun v=>K .ret (g1 v) (en (g2 v)) ⟨h.next,hb.l⟩)
             fun p=>q68 sh.ex (g2 p).1 fun j=>goS (mkS P w sh ts os zFG h1 (g2 p).2) fun e hh=>.ite (slG sh.v zFG hh) (K (.exit j) (g1 p) (oZ sh.v zFG hh e) hh) .fail) .fail
      | none=>.fail)
    | none=>.fail)
  | _,_,_,_=>.fail
def lpW (w:List Nat)(sh:Sh):List Nat:=sh.v.map (·.1)++(w++(sh.d++sh.s.map (·.1)))
structure zH9 (P:Program) (nm:Nm) (N:Nat) (hb:SH) (rdv:List SV->SH->Option (TyL rs)) (en:TyL rs->List SV):Prop where
 ob:OkH P hb
 wk:∀ env h v,OkH P h->okL h env->env.length=N->Keep hb h->rdv env h=some v->Wk P nm (qB env) (qD h.l) (qB (en v)) (qD hb.l)
 kept:∀ env h v,OkH P h->okL h env->Keep hb h->rdv env h=some v->∀ k o,slk k hb.l=some o->slk k h.l=some o
 len:∀ v,(en v).length=N
 ok:∀ v h,okL h (en v)
omit [Yl] in
theorem zAL {h:SH}(a:OkH P h){n:Nat}(hn:h.next<=n):OkH P ⟨n,h.l⟩:=by
 have hk:∀ {x:SV},x.ok h->x.ok ⟨n,h.l⟩:=fun {x} hx=>SV.ok.keep (h:=h) (h':=⟨n,h.l⟩) ⟨hn,fun k ob hh _=>hh,fun k el gr g w t xs hh _=>⟨w,xs,hh,rfl⟩⟩ hx
 exact⟨fun k ob hh=>zM4 (a.ver k ob hh) hn,fun k el w l hh=>zK.2 fun x hx=>hk (zK.1 (a.cells k el w l hh) x hx),fun k el gr g w t xs hh=>by
  have:=a.list k el gr g w t xs hh
  exact⟨zM4 this.1 hn,this.2⟩⟩
omit [Yl] in
theorem qE9:OkH P ⟨0,[]⟩:=⟨fun k ob h=>(by cases h),fun k el w l h=>(by cases h),fun k el gr g w t xs h=>(by cases h)⟩
omit [Yl] in
theorem qRM {σ ρ:Type}{f:σ->Option (σ⊕ρ)}{s:σ}{q:ρ}(h:zG f s=some q):∃ y,f s=some y:=by
 rw[wC] at h
 cases hf:f s with
 | none=>rw[hf] at h;cases h
 | some y=>exact⟨y,rfl⟩
omit [Yl] in
theorem qOU {ls:List Nat}{hh h:SH}{k:Nat}{o:SO}(ho:OkH P hh)(hk:Keep hh h)(e:dW ls hh h=true)(h1:k ∉ ls)(h2:slk k hh.l=some o):slk k h.l=some o:=by
 unfold dW at e;have:=zM1.1 e (k,o) (qMC h2);rw[zN1] at this;rcases this with q | q
 ·exact absurd (xH.1 q) h1
 ·simp only at q;split at q
  ·rename_i o' ho'
   have hw:o'.w=o.w:=by
    rw[zN1] at q;rcases q with q | q
    ·exact zMZ q
    ·rw[h2] at q;exact zMZ q
   have:=hk.same k o' ho' (by rw[hw];exact ho.ver k o h2);rw[this] at h2;cases h2;exact ho'
  ·cases q
theorem oK {ls:List Nat}{hh h:SH}{k:Nat}{o:SO}(ho:OkH P hh)(hk:Keep hh h)(e:dW ls hh h=true)(h1:k ∉ ls)(h2:slk k hh.l=some o):qA k (qD h.l)=some o.enc:=zM (qOU ho hk e h1 h2)
theorem q0O {w:List Nat}{rdv:List SV->SH->Option (TyL rs)}{en:TyL rs->List SV}{hb:SH}(hrd:zH9 P nm N hb rdv en){sh:Sh}{id:Nat}{y:Code}{body:∀ {R':Type},GV Γ->List SV->SH->vQ Γ R'->zE9 R'}{wb:List Nat}(hwb:w=lpW wb sh)
 (hbody:∀ {R':Type} {g:GV Γ} {env:List SV} {h:SH} {K:vQ Γ R'} {r:R'},OkH P h->okL h env->env.length=N->Keep hb h->(body g env h K).run=some r->qQ P G rd nm wd y g (qB env) (qD h.l) (EQ P N wb env h K r))
 {g:GV Γ} {env:List SV} {h:SH} {K:vQ Γ R} (ho:OkH P h) (he:okL h env) (hl:env.length=N) (hbh:Keep hb h) (e:(zAE P nm wb w rdv en hb sh id body g env h K).run=some r) :
 qQ P G rd nm wd (.block id (.loop y)) g (qB env) (qD h.l) (EQ P N w env h K r):=by
 obtain⟨zFG,h0,wk1,zG8,e⟩:=tK (nm:=nm) ho he e;obtain⟨h1,wk2,kp2,ho1,e⟩:=qJK (nm:=nm) zG8.2.1 zG8.1 e
 have zGN:xJ P (sh.v.map (·.1)) env h zFG h1:=⟨qI kp2 zG8.1,ho1,zG8.2.2.1.trans kp2,zG8.2.2.2.1,zG8.2.2.2.2⟩
 split at e
 case h_2=>cases e
 rename_i a b c os ha hb1 hc1 hos;split at e
 case h_2=>cases e
 rename_i ts hts;split at e
 case h_2=>cases e
 rename_i s0 hs0;obtain⟨hown,e1⟩:=qF e;rw[zMY,zMY,zMY] at hown;obtain⟨hown,hsl⟩:=hown;obtain⟨q,hq,hafter⟩:=qQO e1;have he1:=zGN.1;have zIA:=qGX hos;have hl1:zFG.length=N:=zGN.2.2.2.2.trans hl;have zK5:Keep hb h1:=hbh.trans zGN.2.2.1
 let E:GS Γ (TyL ts)->List PV:=fun s=>match mkS P w sh ts os zFG h1 (g2 s) with
  | some p=>qB (oZ sh.v zFG p.2 p.1)
  | none=>[]
 let Ph:GS Γ (TyL ts)->PHp:=fun s=>match mkS P w sh ts os zFG h1 (g2 s) with
  | some p=>qD p.2.l
  | none=>[]
 have hE:∀ {s e2 h2},mkS P w sh ts os zFG h1 (g2 s)=some (e2,h2)->E s=qB (oZ sh.v zFG h2 e2)∧Ph s=qD h2.l:=fun hm=>by
  simp only[E,Ph,hm,and_self]
 obtain⟨y0,hy0⟩:=qRM hq;obtain⟨e0,hh0,hm0,_⟩:=mW hy0;obtain⟨wp0,sp0⟩:=q19 ho1 ho1 he1 ha hb1 hc1 hs0 (by rw[q02] at hm0;exact hm0) zIA (qNQ hos) hown.1 hown.2 (fun k o _ _ hk=>zM hk) (qAC rfl fun _ _=>rfl);have wp0:=qX1 ho1 (uS ho1 he1 hm0).2.1 sp0 he1 hsl.1 (fun i y k g n o q _ _ hi=>⟨k,g,n,hi⟩) wp0
 have fin:∀ {s e2 h2},mkS P w sh ts os zFG h1 s=some (e2,h2)->slG sh.v zFG h2=true->okL h2 (oZ sh.v zFG h2 e2)∧OkH P h2∧(oZ sh.v zFG h2 e2).length=N∧xJ P w env h (oZ sh.v zFG h2 e2) h2∧Keep h1 h2:=fun {s e2 h2} hm hg=>by
  obtain⟨a1,a2,a3,a4,a5,_⟩:=uS ho1 he1 hm;obtain⟨b1,b2⟩:=qVX a2 a3 hg;refine⟨b1,a2,(b2.trans a4).trans hl1,⟨b1,a2,zGN.2.2.1.trans a1,fun i hi=>?_,(b2.trans a4).trans zGN.2.2.2.2⟩,a1⟩;have hi2:i ∉ lpW wb sh:=by rw[<-hwb];exact hi
  unfold lpW at hi2;simp only[zNM,not_or] at hi2;rw[qU,qIR hi2.1,<-qU,a5 i hi hi2.2.2.1 hi2.2.2.2,zGN.2.2.2.1 i hi2.1]
 refine qQ.post (qQ.pre' (wk1.trans wk2) ?_);refine qQ.loop E Ph g1 hq (by rw[(hE hm0).1];exact wp0) (by rw[(hE hm0).2];exact sp0) q3Y.symm ?_;intro s yy hstep;obtain⟨e2,hh,hm,hb2⟩:=mW hstep
 rcases run_ite hb2 with ⟨hgd,hb2⟩ | ⟨_,hb2⟩
 rotate_left 1
 ·cases hb2
 obtain⟨f1,f2,f3,f4,f5⟩:=fin hm hgd;rw[(hE hm).1,(hE hm).2];refine (hbody f2 f1 f3 (zK5.trans f5) hb2).mono ?_;rintro ex g' pe ph ⟨env',h',rfl,rfl,k1,k2,k3,k0,k4,k5⟩;obtain⟨_,_,_,m4,m5,m6⟩:=uS ho1 he1 hm
 have back:∀ {s'},ex≠.ret->q37 sh.v env' h'=true->bk sh os ts (mkS P w sh ts os zFG h1) h1 hh env' h'=some s'->∃ e3 h3,mkS P w sh ts os zFG h1 s'=some (e3,h3)∧WkP (qB env') (qB (oZ sh.v zFG h3 e3))∧qBO (qD h3.l) (qD h'.l):=by
  intro s' hne zIB hbk;unfold bk at hbk;split at hbk
  case h_2=>cases hbk
  rename_i a' b' c' ha' hb' hc';split at hbk
  case h_2=>cases hbk
  rename_i s2 hs2
  cases hc:(qSV os h'&&(qI0 sh.s env' h'&&(mM (sh.b.map (·.1)) sh.b h1 h'&&(dW (sh.o++sh.b.map (·.1)) hh h'&&(mkS P w sh ts os zFG h1 s2).isSome)))) with
  | false=>rw[hc] at hbk;cases hbk
  | true =>
    rw[hc] at hbk;cases hbk;simp only[zMY] at hc;obtain⟨⟨e3,h3⟩,hm3⟩:=zN2.1 hc.2.2.2.2;have zG9:=k4 hne
    have hboth:WkP (qB env') (qB e3)∧qBO (qD h3.l) (qD h'.l):=by
     refine q19 k2 ho1 k1 ha' hb' hc' hs2 hm3 zIA hc.1 hc.2.1 hc.2.2.1 (fun k o hk hkb hk2=>oK f2 zG9.2.2.1 hc.2.2.2.1 (by rw[zNM,not_or];exact⟨hk,hkb⟩) ?_) (qAC ?_ ?_)
     ·rw[m6 k (by rw[zIA];exact hk) hkb];exact hk2
     ·rw[k3,hl1]
     ·intro i hi;have hi2:i ∉ lpW wb sh:=by rw[<-hwb];exact hi
      unfold lpW at hi2;simp only[zNM,not_or] at hi2;rw[zG9.2.2.2.1 i hi2.2.1,qU,qIR hi2.1,<-qU,m5 i hi hi2.2.2.1 hi2.2.2.2]
    refine⟨e3,h3,hm3,qX1 k2 (uS ho1 he1 hm3).2.1 hboth.2 k1 zIB (fun i y k g n o q hmem hb hi=>?_) hboth.1,hboth.2⟩;obtain⟨g2,n2,o2,q2,hi3⟩:=qX0 zIB hmem hb
    have hlab:∀ y',(i,y')∈sh.v->Nat.ble mkL y'=true->lbL y'=lbL y:=fun y' hm' hb'=>by
     obtain⟨_,_,_,_,p1⟩:=qX0 hsl.1 hm' hb';obtain⟨_,_,_,_,p2⟩:=qX0 hsl.1 hmem hb;have p3:=zN0 (p1.symm.trans p2);simp only[SV.sl.injEq] at p3;exact p3.1
    obtain⟨g3,n3,h5⟩:=qPT (h:=hh) (e:=e2) hi hlab hmem hb hgd (by
     rw[m4];rw[qG] at hi
     exact (zM6.1 hi).1)
    have hnb:i ∉ wb:=fun hib=>by
     have h6:=hsl.2;unfold slW at h6;have h7:=zM1.1 h6 (i,y) hmem;simp only[hb,cond_true,xH.2 hib] at h7;cases h7
    have h8:=zG9.2.2.2.1 i hnb;rw[qU,qU,hi3,h5] at h8;simp only[zNE,SV.enc,zM7,PV.own.injEq] at h8;obtain⟨_,_,e1,e2⟩:=h8;exact⟨_,_,_,by rw[hi3,e1,e2]⟩
 have out:∀ {x s' e3 h3},mkS P w sh ts os zFG h1 s'=some (e3,h3)->WkP (qB env') (qB (oZ sh.v zFG h3 e3))->qBO (qD h3.l) (qD h'.l)->(zE9.ite (slG sh.v zFG h3) (K x g' (oZ sh.v zFG h3 e3) h3) .fail).run=some r->∃ pe' ph',Wk P nm (qB env') (qD h'.l) pe' ph'∧EQ P N w env h K r x g' pe' ph':=fun {x s' e3 h3} hm3 w1 w2 hk=>by
  rcases run_ite hk with ⟨zMC,hk⟩ | ⟨_,hk⟩
  rotate_left 1
  ·cases hk
  obtain⟨g1,g2,g3,g4,g5⟩:=fin hm3 zMC;exact⟨_,_,Wk.drop w1 w2,oZ sh.v zFG h3 e3,h3,rfl,rfl,g1,g2,g3,g4.2.2.1,fun _=>g4,hk⟩
 cases ex with
 | normal =>
   simp only[qW9] at k5;obtain⟨zIB,k5⟩:=qF k5;split at k5
   case h_2=>cases k5
   rename_i s' hs';cases k5;obtain⟨e3,h3,hm3,w1,w2⟩:=back (fun h=>by cases h) zIB hs';have hm3:mkS P w sh ts os zFG h1 (g2 (gj g' s'))=some (e3,h3):=by rw[q02];exact hm3
   show zGB.normal=.normal∧WkP (qB env') (E (gj g' s'))∧qBO (Ph (gj g' s')) (qD h'.l)∧g'=g1 (gj g' s');rw[(hE hm3).1,(hE hm3).2,q3Y];exact⟨rfl,w1,w2,rfl⟩
 | exit j =>
   simp only[qW9] at k5;obtain⟨zIB,k5⟩:=qF k5;split at k5
   case h_2=>cases k5
   rename_i s' hs';obtain⟨e3,h3,hm3,w1,w2⟩:=back (fun h=>by cases h) zIB hs';cases k5;intro hqe;refine⟨fun h=>by (cases h),?_⟩
   cases hj:Nat.beq j id with
   | true =>
     rw[hj] at hqe;subst hqe;have hjj:j=id:=zMZ hj;subst hjj;have hafter:(goS (mkS P w sh ts os zFG h1 (g2 (gj g' s'))) fun e hh=>zE9.ite (slG sh.v zFG hh) (K .normal (g1 (gj g' s')) (oZ sh.v zFG hh e) hh) .fail).run=some r:=hafter;obtain⟨e4,h4,hm4,hk⟩:=mW hafter;rw[q02,hm3] at hm4;cases hm4;rw[q3Y] at hk;exact BQY.on (out hm3 w1 w2 hk)
   | false =>
     rw[hj] at hqe;subst hqe;have hjj:j≠id:=fun h=>by rw[h,aA] at hj;cases hj
     obtain⟨e4,h4,hm4,hk⟩:=mW (qQK hafter);rw[q02,hm3] at hm4;cases hm4;rw[q3Y,q02] at hk;exact BQY.ex hjj (out hm3 w1 w2 hk)
 | ret =>
   simp only[qW9] at k5;split at k5
   case h_2=>cases k5
   rename_i v hv;cases k5;intro hqe;subst hqe;have hbr:Keep hb h':=(zK5.trans f5).trans k0;have hkp:=hrd.kept _ _ _ k2 k1 hbr hv
   have hkh:∀ k o,slk k hb.l=some o->slk k h.l=some o:=fun k o hk=>by
    have h2:=hkp k o hk;have hw:o.w < h.next:=zM4 (hrd.ob.ver k o hk) hbh.next;have zJL:Keep h h':=(zGN.2.2.1.trans f5).trans k0;exact zJL.same k o h2 hw
   have hkeep:Keep h ⟨h.next,hb.l⟩:=⟨zM0 _,fun k ob hk _=>hkh k ob hk,fun k el gr g w t xs hk _=>⟨w,xs,hkh k _ hk,rfl⟩⟩
   have hafter:(K .ret (g1 (gj g' v)) (en (g2 (gj g' v))) ⟨h.next,hb.l⟩).run=some r:=hafter;rw[q3Y,q02] at hafter;refine⟨fun h=>by (cases h),BQY.rt ⟨_,_,hrd.wk _ _ _ k2 k1 k3 hbr hv,en v,⟨h.next,hb.l⟩,rfl,rfl,hrd.ok v _,zAL hrd.ob hbh.next,hrd.len v,hkeep,fun h=>absurd rfl h,hafter⟩⟩
 | goto l=>simp only[qW9] at k5;cases k5
def zAJ (sh:Sh)(os:List (Nat×Bool))(ts:List Ty)(mk:TyL ts->Option (List SV×SH))(h1:SH):vQ Γ (Unit⊕GS Γ (TyL ts)):=fun e g env h=>match e with
 | .normal=>(match bk sh os ts mk h1 h1 env h with
   | some s=>.ret (.inr (gj g s))
   | none=>.fail)
 | _=>.fail
def zBZ (P:Program)(wa:List Nat)(j:zHU)(body:∀ {R':Type},GV Γ->List SV->SH->vQ Γ R'->zE9 R')(g:GV Γ)(env:List SV)(h:SH)(K:GV Γ->List SV->SH->zE9 R):zE9 R :=
 cond ((j.d++j.s.map (·.1)).all fun i=>oW i wa)
  (.loop (fun _:Unit=>body g env h (zAJ j.sh j.os j.ts (mkS P wa j.sh j.ts j.os env h) h)) () fun q=>goS (mkS P wa j.sh j.ts j.os env h (g2 q)) fun e hh=>K (g1 q) e hh) .fail
omit [Gc] [Yl] in
theorem qEP {ρ:Type}{f:Unit->Option (Unit⊕ρ)}{q:ρ}:∀ {n:Nat},vN n f ()=some q->f ()=some (.inr q)
 | 0,h=>by cases h
 | n+1,h=>by
   unfold vN at h;split at h
   ·exact qEP h
   ·rename_i hf;cases h;exact hf
   ·cases h
theorem q2G {wa:List Nat}{j:zHU}{y:Code}{body:∀ {R':Type},GV Γ->List SV->SH->vQ Γ R'->zE9 R'}
 {g:GV Γ} {env:List SV} {h:SH} {K:GV Γ->List SV->SH->zE9 R}
 (hbody:∀ {R':Type} {K:vQ Γ R'} {r:R'},(body g env h K).run=some r->qQ P G rd nm wd y g (qB env) (qD h.l) (EQ P N wa env h K r))
 (ho:OkH P h) (he:okL h env) (hl:env.length=N) (e:(zBZ P wa j body g env h K).run=some r) :
 qQ P G rd nm wd y g (qB env) (qD h.l) fun ex g' pe ph=>ex=.normal∧∃ zFS h2,pe=qB zFS∧ph=qD h2.l∧OkH P h2∧okL h2 zFS∧zFS.length=N∧xJ P wa env h zFS h2∧(K g' zFS h2).run=some r:=by
 obtain⟨hsub,e1⟩:=qF e;obtain⟨q,hq,hafter⟩:=qQO e1;obtain⟨n,hn⟩:=bJ hq;have hstep:=qEP hn;obtain⟨e2,hh,hm,hk⟩:=mW hafter;refine qQ.post ((hbody hstep).mono ?_);rintro ex g' pe ph ⟨env',h',rfl,rfl,k1,k2,k3,k0,k4,k5⟩
 cases ex with
 | normal =>
   simp only[zAJ] at k5;split at k5
   case h_2=>cases k5
   rename_i s' hbk;cases k5;rw[q02] at hm;rw[q3Y] at hk;unfold bk at hbk;split at hbk
   case h_2=>cases hbk
   rename_i a' b' c' ha' hb' hc';split at hbk
   case h_2=>cases hbk
   rename_i s2 hs2
   cases hc:(qSV j.os h'&&(qI0 j.sh.s env' h'&&(mM (j.sh.b.map (·.1)) j.sh.b h h'&&(dW (j.sh.o++j.sh.b.map (·.1)) h h'&&(mkS P wa j.sh j.ts j.os env h s2).isSome)))) with
   | false=>rw[hc] at hbk;cases hbk
   | true =>
     rw[hc] at hbk;cases hbk;simp only[zMY] at hc;have zG9:=k4 fun h=>by cases h
     obtain⟨w1,w2⟩:=q19 k2 ho k1 ha' hb' hc' hs2 hm rfl hc.1 hc.2.1 hc.2.2.1 (fun k o hk hkb hk2=>oK ho zG9.2.2.1 hc.2.2.2.1 (by rw[zNM,not_or];exact⟨hk,hkb⟩) hk2) (qAC (k3.trans hl.symm) fun i hi=>zG9.2.2.2.1 i hi);obtain⟨m1,m2,m3,m4,m5,_⟩:=uS ho he hm
     have hin:∀ i,i ∉ wa->i ∉ j.d∧i ∉ j.s.map (·.1):=fun i hi=>by
      have hx:∀ z∈j.d++j.s.map (·.1),z∈wa:=fun z hz=>xH.1 (zM1.1 hsub z hz)
      exact⟨fun h=>hi (hx i (zOC _ h)),fun h=>hi (hx i (zOX _ h))⟩
     exact⟨_,_,Wk.drop w1 w2,rfl,e2,hh,rfl,rfl,m2,m3,m4.trans hl,⟨m3,m2,m1,fun i hi=>m5 i hi (hin i hi).1 (hin i hi).2,m4⟩,hk⟩
 | exit _=>cases k5
 | ret=>cases k5
 | goto _=>cases k5
end
end Go.Sv
namespace Go.Sv
open Go.Idl
noncomputable section
variable [Gc]
variable [Yl]
variable {P:Program}{Γ:Option Type}{R:Type}{r:R}{nm:Nm}{G:Nat->Bool}{rd:Bool}{N:Nat}{rs:List Ty}{tab:uQ}{nat:xA}{good:FuncId->Bool}{wd:Wld (GV Γ)}
omit [Yl] in
theorem qBD:∀ {ts:List Ty} {x:TyL ts} {y:PV},y∈pvL ts x->∃ (t:Ty) (z:t.sem),y=t.pv z
 | [],_,_,h=>by cases h
 | [t],x,y,h=>⟨t,x,by simpa [pvL] using h⟩
 | t::u::ts,x,y,h=>by
   have h:y∈t.pv x.1::pvL (u::ts) x.2:=h;rcases zNF.1 h with q | q
   ·exact⟨t,x.1,q⟩
   ·exact qBD q
omit [Yl] in
theorem qU7 (t:Ty)(x:t.sem):qHU (t.pv x)=true:=by
 unfold Ty.pv
 cases t.one with
 | true=>rfl
 | false =>
   show ((t.cells x).map PV.f).all qSS=true;rw[zM1];intro y hy;obtain⟨c,_,rfl⟩:=zNO.1 hy;rfl
omit [Yl] in
theorem q6M {Z:Nat->Prop}{H:IH}{M M':Nat->Option (Nat×PO)}{ts:List Ty}{x:TyL ts}{vs:List Value}(h:VRL P Z H M (pvL ts x) vs):VRL P Z H M' (pvL ts x) vs:=⟨h.len,fun i y v a b=>by
 obtain⟨t,z,rfl⟩:=qBD (zN5 a)
 exact bO (h.val i _ v a b) (qU7 t z)⟩
omit [Yl] in
theorem qE5:∀ (ts:List Ty) (x:TyL ts),(svL ts x).length=ts.length
 | [],_=>rfl
 | [_],_=>rfl
 | t::u::ts,x=>by
   show (t.sv x.1::svL (u::ts) x.2).length=_;simp only[zNZ,qE5 (u::ts)]
def q8R (t:Ty)(x:t.sem):PV:=.lp (t.cells x) 0
def zCN:(ts:List Ty)->TyL ts->List PV
 | [],_=>[]
 | [t],x=>[q8R t x]
 | t::u::ts,x=>q8R t x.1::zCN (u::ts) x.2
def qAK (P:Program)(t:Ty)(v:SV)(h:SH):Option (t.sem×SH):=match v with
 | .ref k off w=>(match slk k h.l with
   | some (.cells el _ l)=>cond (!spec P el&&(Nat.beq off 0&&Nat.beq w l.length)) (match t.zH8 P (vS P 8 el) l (h.del k) with
     | some (x,_,[],h')=>some (x,h')
     | _=>none) none
   | _=>none)
 | _=>none
def aK (P:Program):(ts:List Ty)->List SV->SH->Option (TyL ts×SH)
 | [],[],h=>some ((),h)
 | [t],[v],h=>qAK P t v h
 | t::u::ts,v::vs,h=>match qAK P t v h with
   | some (x,h1)=>(match aK P (u::ts) vs h1 with
     | some (y,h2)=>some ((x,y),h2)
     | none=>none)
   | none=>none
 | _,_,_=>none
theorem qBJ {t:Ty}{v:SV}{h:SH}{x:t.sem}{h':SH}(ho:OkH P h)(e:qAK P t v h=some (x,h')) :
 Keep h h'∧OkH P h'∧∀ (Z:Nat->Prop) (H:IH) (m:Nat->Nat) (u:Value),Hp P Z H (own m (qD h.l))->VR P Z H (own m (qD h.l)) v.enc u->∃ Z',Fz P Z H m (qD h.l) Z' (qD h'.l)∧VR P Z' H (fun _=>none) (q8R t x) u:=by
 unfold qAK at e;split at e
 case h_2=>cases e
 rename_i k off w;split at e
 case h_2=>cases e
 rename_i el w0 l hk
 cases hc:(!spec P el&&(Nat.beq off 0&&Nat.beq w l.length)) with
 | false=>rw[hc] at e;cases e
 | true =>
   rw[hc] at e;simp only[cond_true] at e;rw[zMY,zNJ] at hc;obtain⟨hsp,hc⟩:=hc;rw[zMY] at hc;have h1:off=0:=zMZ hc.1;have h2:w=l.length:=zMZ hc.2;subst h1 h2;split at e
   case h_2=>cases e
   rename_i y zFQ h2 hd;cases e;have hd0:=fI (k:=k) ho;obtain⟨a1,a2,a3,ys,a4,a5⟩:=qBA hd0.2 (qI hd0.1 (ho.cells _ _ _ _ hk)) hd;refine⟨hd0.1.trans a2,a3,fun Z H m u hp hv=>?_⟩;have hkp:=zM hk;have zFY:real (SO.cells el w0 l).enc:=fun q=>by cases q.1
   obtain⟨w1,w2,w3,vs,q1,q2,q3⟩:=hp.real hkp zFY hsp;have hcut:=Fz.del hp hkp zFY;have hfz:=a4 [] (qD h'.l) (by simp[qB,sN]);rw[zOT] at hfz;rw[show qD (h.del k).l=nN k (qD h.l) from fF k _] at hfz;obtain⟨Z2,c2,r2⟩:=qCU (fun a b c=>qIW 4 a b c) hcut.hp (hcut.vrl q2) hfz;refine⟨Z2,hcut.trans c2,?_⟩;simp only[SV.enc] at hv
   cases hv with
   | ref g1 g2 =>
     obtain⟨_,g3⟩:=g2 _ _ (qM hkp);obtain⟨rfl,_⟩:=g3 (by simp[SO.enc,qP]);have hrt:=qD7 (P:=P) (M:=fun _=>none) (f:=rtC P) (ts:=vS P 8 el) (fun t x v h=>q4C h) (r2.map (P:=P) (M:=fun _=>none));have h5:=(a5 []).1;rw[zOT] at h5;rw[h5] at hrt
     have hrt:VRL P Z2 H (fun _=>none) ((t.cells x).map .f) vs:=by
      cases zFQ <;> simpa [rtL] using hrt
     have hlen:(t.cells x).length=vs.length:=by have:=hrt.len;simpa using this
     refine .lp (o:=0) (vs:=vs) (c2.zle _ (.inr rfl)) w1 ?_ ?_
     ·rw[hlen];exact xK q1 (by omega) (by simp)
     ·intro i y v hy hvv;have:=hrt.val i (.f y) v (by rw[zNC,hy];rfl) hvv
      cases this with
      | f h=>exact h
theorem qEK:∀ {ts:List Ty} {vs:List SV} {h:SH} {x:TyL ts} {h':SH},OkH P h->aK P ts vs h=some (x,h') ->
 Keep h h'∧OkH P h'∧∀ (Z:Nat->Prop) (H:IH) (m:Nat->Nat) (us:List Value),Hp P Z H (own m (qD h.l))->VRL P Z H (own m (qD h.l)) (qB vs) us->∃ Z',Fz P Z H m (qD h.l) Z' (qD h'.l)∧VRL P Z' H (fun _=>none) (zCN ts x) us
 | [],[],h,x,h',ho,e=>by
   unfold aK at e;cases e;refine⟨.refl _,ho,fun Z H m us hp hv=>⟨Z,.refl hp,?_⟩⟩;simp only[qB] at hv;rw[hv.zFF];exact .nil
 | [t],[v],h,x,h',ho,e=>by
   unfold aK at e;obtain⟨a1,a2,a3⟩:=qBJ ho e;refine⟨a1,a2,fun Z H m us hp hv=>?_⟩;simp only[qB] at hv;obtain⟨u,us',rfl,b1,b2⟩:=hv.zFD;obtain⟨Z',c1,c2⟩:=a3 Z H m u hp b1;rw[b2.zFF];exact⟨Z',c1,.cons c2 .nil⟩
 | t::u::ts,v::vs,h,x,h',ho,e=>by
   unfold aK at e;split at e
   case h_2=>cases e
   rename_i x1 h1 hd;split at e
   case h_2=>cases e
   rename_i y h2 hd2;cases e;obtain⟨a1,a2,a3⟩:=qBJ ho hd;obtain⟨b1,b2,b3⟩:=qEK a2 hd2;refine⟨a1.trans b1,b2,fun Z H m us hp hv=>?_⟩;simp only[qB] at hv;obtain⟨w,us',rfl,d1,d2⟩:=hv.zFD;obtain⟨Z1,c1,c2⟩:=a3 Z H m w hp d1;obtain⟨Z2,f1,f2⟩:=b3 Z1 H m us' c1.hp (c1.vrl d2);exact⟨Z2,c1.trans f1,.cons (c2.mono (p:=fun _=>false) f1.zle (zM0 _) (fun _ _ _=>rfl) (.refl _ _) fun j hj=>by cases hj) f2⟩
 | [],_::_,_,_,_,_,e=>by cases e
 | t::ts,[],_,_,_,_,e=>by cases ts <;> (unfold aK at e;cases e)
 | [_],_::_::_,_,_,_,_,e=>by unfold aK at e;cases e
def zA8 (P:Program)(G:Nat->Bool)(f:FuncId)(ent:zFV):Prop:=entered P f=true∧∀ (x:TyL ent.as) (γ:Type) (stp:γ->TyL ent.ys->Option (γ×Bool)) (g0 g1:γ),ent.F x γ stp g0=some g1->∀ (w:Wld γ) (l:Nat),
 (∀ g y g' b,stp g y=some (g',b)->qI2 P G w l g (pvL ent.ys y) g' b)->∀ (Z:Nat->Prop) (H:IH) (D:Nat->Prop) (us:List Value),(∀ b,Z b->b < H.size)->H.base<=H.size->q3G Z H->w.W g0 Z H D->VRL P Z H (fun _=>none) (zCN ent.as x) us ->
 gP P G f (.func (.yield l) #[] #[]::us) H fun r=>∃ Z' D',(∀ b,Z' b->b < r.2.size)∧w.W g1 Z' r.2 D'∧StW Z H D Z' r.2 D'
def q6B (P:Program)(G:Nat->Bool)(IT:List (FuncId×zFV)):Prop:=∀ f ent,slI f IT=some ent->zA8 P G f ent
def qDI:List Nat->List SV->List SV->List SV
 | i::is,v::vs,env=>qDI is vs (yQ env i v)
 | _,_,env=>env
def noSh (sh:Sh):Bool:=sh.d.isEmpty&&(sh.s.isEmpty&&sh.v.isEmpty)
def q2A (sh:Sh)(os:List (Nat×Bool))(ts:List Ty)(mk:TyL ts->Option (List SV×SH))(h1 hh:SH):vQ Γ (GS Γ (TyL ts)×Bool):=fun e g env h=>match e with
 | .normal=>(match bk sh os ts mk h1 hh env h with
   | some s=>.ret (gj g s,true)
   | none=>.fail)
 | _=>.fail
def zDB {R:Type}(k:GV Γ->List SV->SH->zE9 R):vQ Γ R:=fun e g env h=>match e with
 | .normal=>k g env h
 | _=>.fail
def rgN (nm:Nm)(l:List Nat):Nm:=⟨nm.b,fun k=>nm.p k&&!oW k l⟩
def q4J (P:Program)(G:Nat->Bool)(IT:List (FuncId×zFV))(nm:Nm)(sh:Sh)(v:Operand)(ps:Array Tmp)(bx bY:Code)(x y:∀ {R':Type},Nm->GV Γ->List SV->SH->vQ Γ R'->zE9 R')(g:GV Γ)(env:List SV)(h:SH)(K:vQ Γ R):zE9 R :=
 qW1 P nm (sh.b.map (·.1)) sh.bv env h fun env h1=>match xS env v with
  | .fn f [] caps=>(match slI f IT with
    | some ent=>(match aK P ent.as caps h1 with
      | some (z,h2)=>(match qSQ sh.o h2,qYR sh.b h2,q5Y sh.o h2 with
        | some b,some c,some os=>(match zCT (b++c) with
          | some ts=>(match sQ ts (b++c) with
            | some s0=>cond (noSh sh&&(mM (sh.b.map (·.1)) sh.b h2 h2&&(Nat.beq ps.size ent.ys.length&&(kR G v&&(codeOk G true bx&&codeOk G true bY)))))
               (goS (mkS P [] sh ts os env h2 s0) fun _ _=>.bind (ent.F z (GS Γ (TyL ts)) (fun s w=>(goS (mkS P [] sh ts os env h2 (g2 s)) fun e hh=>x (rgN nm (h2.l.map (·.1)++(os.map (·.1)++sh.b.map (·.1)))) (g1 s) (qDI ps.toList (svL ent.ys w) e) hh
                 (zDB fun g3 e3 h3=>y (rgN nm (h2.l.map (·.1)++(os.map (·.1)++sh.b.map (·.1)))) g3 e3 h3 (q2A sh os ts (mkS P [] sh ts os env h2) h2 hh))).run) (gj g s0))
                 fun q=>goS (mkS P [] sh ts os env h2 (g2 q)) fun e hh=>K .normal (g1 q) e hh) .fail
            | none=>.fail)
          | none=>.fail)
        | _,_,_=>.fail)
      | none=>.fail)
    | none=>.fail)
  | _=>.fail
omit [Yl] in
theorem qIM:∀ (i:Nat) (l:List SV),blank [] i l=l
 | _,[]=>rfl
 | i,x::l=>by simp[blank,oW,qIM (i+1) l]
omit [Yl] in
theorem qG2 {sh:Sh}{ts:List Ty}{os:List (Nat×Bool)}{env e2:List SV}{h1 h2:SH}{s:TyL ts}(hn:noSh sh=true)(hm:mkS P [] sh ts os env h1 s=some (e2,h2)):e2=env:=by
 unfold noSh at hn;simp only[zMY,zP5] at hn;unfold mkS at hm;rw[hn.1,hn.2.1] at hm;split at hm
 ·split at hm
  ·split at hm
   ·rename_i e3 hss;cases hm;have:some (blank [] 0 env)=some e2:=hss;rw[qIM] at this;exact (zN0 this).symm
   ·cases hm
  ·cases hm
 ·cases hm
omit [Yl] in
theorem qIF:∀ (ps:List Nat) (vs env:List SV),(qDI ps vs env).length=env.length
 | [],vs,env=>rfl
 | i::is,[],env=>rfl
 | i::is,v::vs,env=>by
   show (qDI is vs (yQ env i v)).length=_;rw[qIF is,jH]
omit [Yl] in
theorem qP2 {h:SH}:∀ {ps:List Nat} {vs env:List SV},okL h vs->okL h env->okL h (qDI ps vs env)
 | [],vs,env,_,he=>he
 | i::is,[],env,_,he=>he
 | i::is,v::vs,env,hv,he=>by
   simp only[okL] at hv;exact qP2 (ps:=is) hv.2 (y9 he hv.1)
theorem qJ9 {Z:Nat->Prop}{H:IH}{M:Nat->Option (Nat×PO)}:∀ {ps:List Nat} {vs env:List SV} {ws zFA:List Value},VRL P Z H M (qB vs) ws->VRL P Z H M (qB env) zFA->VRL P Z H M (qB (qDI ps vs env)) ((ps.zip ws).foldl (fun e p=>yQ e p.1 p.2) zFA)
 | [],vs,env,ws,zFA,_,he=>he
 | i::is,[],env,ws,zFA,hv,he=>by
   simp only[qB] at hv;rw[hv.zFF];exact he
 | i::is,v::vs,env,ws,zFA,hv,he=>by
   simp only[qB] at hv;obtain⟨w,ws',rfl,a1,a2⟩:=hv.zFD;show VRL P Z H M (qB (qDI is vs (yQ env i v))) ((is.zip ws').foldl (fun e p=>yQ e p.1 p.2) (yQ zFA i w));refine qJ9 a2 ?_;rw[xW,qV,qV];exact he.set a1 i
def rgW (P:Program)(wd:Wld (GV Γ))(env:List SV)(h0:SH)(zFA:Env)(H0:IH)(m0:Nat->Nat)(D0:Nat->Prop)(lp:Loop){S:Type}(mk:S->Option (List SV×SH)):Wld (GS Γ S) where
 W q Z H D:=∃ e hh m Dg,mk (g2 q)=some (e,hh)∧St P wd (g1 q) (qB env) (qD hh.l) Z H m zFA Dg∧H.get H0.size=some (.loop lp)∧H0.size < H.size∧¬ bV (own m (qD hh.l)) H0.size∧¬ Dg H0.size∧¬ Z H0.size ∧
  (∀ b,D b ↔ bV (own m (qD hh.l)) b∨Dg b∨b=H0.size)∧KR (fun _=>false) (own m0 (qD h0.l)) (own m (qD hh.l))∧(∀ b,bV (own m (qD hh.l)) b->b < H0.size->bV (own m0 (qD h0.l)) b)∧(∀ b,Dg b->b < H0.size->D0 b)∧H.base=H0.base
 lt:=by
  rintro g Z H D ⟨e,hh,m,Dg,a1,a2,a3,a4,a5,a6,a7,a8,_⟩ b hb;rcases (a8 b).1 hb with q | q | q
  ·exact (aW a2.hp q).1
  ·exact wd.lt a2.wd b q
  ·rw[q];exact a4
 nz:=by
  rintro g Z H D ⟨e,hh,m,Dg,a1,a2,a3,a4,a5,a6,a7,a8,_⟩ b hb;rcases (a8 b).1 hb with q | q | q
  ·exact (aW a2.hp q).2
  ·exact wd.nz a2.wd b q
  ·rw[q];exact a7
 keep:=by
  rintro g Z H D Z' H' ⟨e,hh,m,Dg,a1,a2,a3,a4,a5,a6,a7,a8,a9,a10,a11,a12⟩ hz hl hs hb hg hn;refine⟨e,hh,m,Dg,a1,a2.other hz hl hs hb (fun b h1 h2=>hg b h1 ?_) (fun b h=>hn b ((a8 b).2 ?_)),?_,zM4 a4 hs,a5,a6,hn _ ((a8 _).2 (.inr (.inr rfl))),a8,a9,a10,a11,hb.trans a12⟩
  ·rcases h2 with q | q | q
   ·exact .inl ((a8 b).2 (.inl q))
   ·exact .inl ((a8 b).2 (.inr (.inl q)))
   ·exact .inr q
  ·rcases h with q | q
   ·exact .inl q
   ·exact .inr (.inl q)
  ·rw[hg _ a4 (.inl ((a8 _).2 (.inr (.inr rfl))))];exact a3
omit [Yl] in
theorem q55 {R:Type}{k:GV Γ->List SV->SH->zE9 R}{e:zGB}{g:GV Γ}{env:List SV}{h:SH}{r:R}(q:(zDB k e g env h).run=some r):e=.normal∧(k g env h).run=some r:=by
 cases e with
 | normal=>exact⟨rfl,q⟩
 | _=>cases q
omit [Yl] in
theorem q0V {sh:Sh}{os:List (Nat×Bool)}{ts:List Ty}{mk:TyL ts->Option (List SV×SH)}{h1 hh:SH}{e:zGB}{g:GV Γ}{env:List SV}{h:SH}{r:GS Γ (TyL ts)×Bool}(q:(q2A sh os ts mk h1 hh e g env h).run=some r) :
 e=.normal∧∃ s,bk sh os ts mk h1 hh env h=some s∧r=(gj g s,true):=by
 cases e with
 | normal =>
   simp only[q2A] at q;split at q
   ·rename_i s hs;cases q;exact⟨rfl,s,hs,rfl⟩
   ·cases q
 | _=>cases q
theorem qZT {sh:Sh}{ts:List Ty}{os:List (Nat×Bool)}{env:List SV}{h2:SH}{zFA:Env}{H0:IH}{m0:Nat->Nat}{D0:Nat->Prop}{lp:Loop}{bx bY:Code}{x y:∀ {R':Type},Nm->GV Γ->List SV->SH->vQ Γ R'->zE9 R'}{wx wy:List Nat}{ent:zFV}{ks:List Nat}{hb:SH}
 (hx:∀ {R':Type} {nm:Nm} {g:GV Γ} {env:List SV} {h:SH} {K:vQ Γ R'} {r:R'},OkH P h->okL h env->env.length=N->Keep hb h->(x nm g env h K).run=some r->qQ P G true nm wd bx g (qB env) (qD h.l) (EQ P N wx env h K r))
 (hy:∀ {R':Type} {nm:Nm} {g:GV Γ} {env:List SV} {h:SH} {K:vQ Γ R'} {r:R'},OkH P h->okL h env->env.length=N->Keep hb h->(y nm g env h K).run=some r->qQ P G true nm wd bY g (qB env) (qD h.l) (EQ P N wy env h K r))
 (ho2:OkH P h2) (he2:okL h2 env) (hbh:Keep hb h2) (hl:env.length=N) (hn:noSh sh=true) (hos:os.map (·.1)=sh.o) (hks:∀ k,k ∉ ks->k ∉ os.map (·.1)∧k ∉ sh.b.map (·.1)∧slk k h2.l=none)
 (hr1:lp.state=.ready) (hr2:lp.pending=none) (hr3:lp.tmps.toList=zFA) (hr5:lp.assign=bx) (hr6:lp.body=bY) (hps:lp.params.size=ent.ys.length)
 {q q':GS Γ (TyL ts)} {w:TyL ent.ys} {b:Bool} (e:(goS (mkS P [] sh ts os env h2 (g2 q)) fun e hh=>x (rgN nm ks) (g1 q) (qDI lp.params.toList (svL ent.ys w) e) hh (zDB fun g3 e3 h3=>y (rgN nm ks) g3 e3 h3 (q2A sh os ts (mkS P [] sh ts os env h2) h2 hh))).run=some (q',b)) :
 qI2 P G (rgW P wd env h2 zFA H0 m0 D0 lp (mkS P [] sh ts os env h2)) H0.size q (pvL ent.ys w) q' b:=by
 obtain⟨e2,hh,hm,hb2⟩:=mW e;have he:=qG2 hn hm;subst he;intro Z H D ivs hz hbs hW hv;obtain⟨e',hh',m,Dg,a1,a2,a3,a4,a5,a6,a7,a8,a9,a10,a11,a12⟩:=hW;rw[hm] at a1;cases a1;obtain⟨m1,m2,m3,m4,m5,m6⟩:=uS ho2 he2 hm;have hlen:ivs.length=lp.params.size:=by rw[<-hv.len,<-qCM,qP,qE5,hps]
 have zMD:okL hh (qDI lp.params.toList (svL ent.ys w) e2):=qP2 (qB3 _ _) m3;refine qS9 a3 hr1 hlen ?_;rw[hr5,hr3]
 have hs0:St P wd (g1 q) (qB (qDI lp.params.toList (svL ent.ys w) e2)) (qD hh.l) Z H m ((lp.params.toList.zip ivs).foldl (fun e p=>yQ e p.1 p.2) zFA) Dg:=by
  refine⟨a2.hp,qJ9 ?_ a2.vrl,a2.wd,a2.dis⟩;rw[qCM];exact q6M hv
 refine (hx m2 zMD (by rw[qIF,m4,hl]) (hbh.trans m1) hb2 Z H m _ Dg hs0 hbs).mono ?_;rintro o ⟨Z2,m2',pe3,ph3,g3,D3,st3,sd3,kr3,e3,h3,rfl,rfl,k1,k2,k3,k0,k4,k5⟩;obtain⟨hoe,k5⟩:=q55 k5;have hl3:¬ bV (own m2' (qD h3.l)) H0.size:=fun h=>a5 (sd3.onew _ h a4)
 have hD3:¬ D3 H0.size:=fun h=>a6 (sd3.zGR _ h a4)
 have hZ3:¬ Z2 H0.size:=fun h=>by
  rcases sd3.zGD _ h a4 with q | q | q
  ·exact a7 q
  ·exact a5 q
  ·exact a6 q
 have hg3:o.H.get H0.size=some (.loop lp):=(sd3.keep _ a4 a5 a6).trans a3;refine⟨hoe,lp,hg3,hr1,?_⟩;subst hr6;have hlt3:H0.size < o.H.size:=zM4 a4 sd3.size
 have st4:St P wd g3 (qB e3) (qD h3.l) Z2 (o.H.put H0.size (.loop { lp with state:=.busy })) m2' o.env D3:=by
  refine st3.other (fun _ h=>h) st3.hp.zlt (zM0 _) rfl (fun b hb h=>xP fun e=>?_) (fun b h=>?_)
  ·subst e;rcases h with h | h | h
   ·exact hl3 h
   ·exact hD3 h
   ·exact hZ3 h
  ·rcases h with h | h
   ·exact (aW st3.hp h).2
   ·exact wd.nz st3.wd b h
 have hb4:(o.H.put H0.size (.loop { lp with state:=.busy })).base<=(o.H.put H0.size (.loop { lp with state:=.busy })).size:=by
  show o.H.base<=o.H.size;rw[sd3.base];exact zNP hbs sd3.size
 refine (hy k2 k1 k3 ((hbh.trans m1).trans k0) k5 Z2 _ m2' o.env D3 st4 hb4).mono ?_;rintro s ⟨Z5,m5',pe5,ph5,g5,D5,st5,sd5,kr5,e5,h5,rfl,rfl,l1,l2,l3,l0,l4,l5⟩;obtain⟨hse,s',hbk,hqe⟩:=q0V l5;cases hqe;have zIZ:H0.size < (o.H.put H0.size (.loop { lp with state:=.busy })).size:=hlt3;have hg5:s.H.get H0.size=some (.loop { lp with state:=.busy }):=(sd5.keep _ zIZ hl3 hD3).trans (u7);have hl5:¬ bV (own m5' (qD h5.l)) H0.size:=fun h=>hl3 (sd5.onew _ h zIZ)
 have hD5:¬ D5 H0.size:=fun h=>hD3 (sd5.zGR _ h zIZ)
 have hZ5:¬ Z5 H0.size:=fun h=>by
  rcases sd5.zGD _ h zIZ with q | q | q
  ·exact hZ3 q
  ·exact hl3 q
  ·exact hD3 q
 have zME:H0.size < s.H.size:=zM4 zIZ sd5.size;refine⟨_,hg5,?_,?_⟩
 ·rw[hse];rfl
 have hlp:({ ({ lp with state:=LoopState.busy }:Loop) with state:=if (yU s.e).isNone then LoopState.ready else LoopState.done,pending:=yU s.e }:Loop)=lp:=by
  rw[hse];cases lp;simp only at hr1 hr2;subst hr1 hr2;rfl
 show ∃ Z' D',(∀ b,Z' b->b < (s.H.put H0.size (.loop { ({ lp with state:=LoopState.busy }:Loop) with state:=if (yU s.e).isNone then LoopState.ready else LoopState.done,pending:=yU s.e })).size)∧(rgW P wd e2 h2 zFA H0 m0 D0 lp (mkS P [] sh ts os e2 h2)).W (gj g5 s') Z' (s.H.put H0.size (.loop { ({ lp with state:=LoopState.busy }:Loop) with state:=if (yU s.e).isNone then LoopState.ready else LoopState.done,pending:=yU s.e })) D'∧StW Z H D Z' (s.H.put H0.size (.loop { ({ lp with state:=LoopState.busy }:Loop) with state:=if (yU s.e).isNone then LoopState.ready else LoopState.done,pending:=yU s.e })) D';rw[hlp];unfold bk at hbk;split at hbk
 case h_2=>cases hbk
 rename_i a' b' c' ha' hb' hc';split at hbk
 case h_2=>cases hbk
 rename_i s2 hs2
 cases hc:(qSV os h5&&(qI0 sh.s e5 h5&&(mM (sh.b.map (·.1)) sh.b h2 h5&&(dW (sh.o++sh.b.map (·.1)) hh h5&&(mkS P [] sh ts os e2 h2 s2).isSome)))) with
 | false=>rw[hc] at hbk;cases hbk
 | true =>
   rw[hc] at hbk;cases hbk;simp only[zMY] at hc;obtain⟨⟨e6,h6⟩,hm6⟩:=zN2.1 hc.2.2.2.2;have he6:=qG2 hn hm6;subst he6
   have hsd:sh.d=[]:=by
    unfold noSh at hn;simp only[zMY,zP5] at hn;exact hn.1
   have hw2:qB (dG sh.d (svL ts s') (blank [] 0 e6)).2=qB (b'++c'):=by
    rw[hsd] at ha' ⊢;cases ha';exact (aN hs2).symm
   obtain⟨ho6,_,hsub⟩:=qQM l2 ho2 hb' hc' hw2 hm6 hos hc.1 hc.2.2.1 (fun k o hk hkb hk2=>oK m2 (k0.trans l0) hc.2.2.2.1 (by rw[zNM,not_or];exact⟨hk,hkb⟩) (by rw[m6 k (by rw[hos];exact hk) hkb];exact hk2));obtain⟨_,_,_,_,_,n6⟩:=uS ho2 he2 hm6;have hfz:=Fz.drop st5.hp (qAT hsub)
   have keep:∀ b,b < H.size->¬ bV (own m (qD hh.l)) b->¬ Dg b->b≠H0.size->s.H.get b=H.get b:=fun b h1 h2 h3 h4=>by
    have g1:=sd3.keep b h1 h2 h3;have hb3:b < o.H.size:=zM4 h1 sd3.size;have g2:(o.H.put H0.size (.loop { lp with state:=.busy })).get b=o.H.get b:=xP h4;exact (sd5.keep b hb3 (fun h=>h2 (sd3.onew b h h1)) fun h=>h3 (sd3.zGR b h h1)).trans (g2.trans g1)
   have hzk:∀ b,Z b->b < H.size->s.H.get b=H.get b:=fun b h1 h2=>keep b h2 (fun h=>(aW a2.hp h).2 h1) (fun h=>wd.nz a2.wd b h h1) fun e=>a7 (e ▸ h1)
   have hz5:∀ b,Z b->Z5 b:=fun b h=>sd5.zle b (sd3.zle b h)
   have hsz:H.size<=s.H.size:=zNP sd3.size sd5.size;have hbase:s.H.base=H.base:=sd5.base.trans sd3.base
   have hkr:KR (fun _=>false) (own m (qD hh.l)) (own m5' (qD h6.l)):=by
    refine KR.none ((kr3.trans kr5).trans (hfz.kr _)) fun k o hk=>?_
    rw[vC] at hk;obtain⟨o',q1,_⟩:=zM8.1 hk;show (nm.p k&&!oW k ks)=false
    cases hmm:oW k ks with
    | true=>simp
    | false =>
      exfalso;obtain⟨r1,r2,r3⟩:=hks k fun hm=>by rw[xH.2 hm] at hmm;cases hmm
      rw[n6 k r1 r2,r3] at q1;cases q1
   have zH2:∀ b,bV (own m5' (qD h6.l)) b->bV (own m5' (qD h5.l)) b:=fun b ⟨k,ob,h1,h2⟩=>⟨k,ob,hfz.zHL h1,h2⟩
   have zI0:∀ b,bV (own m5' (qD h6.l)) b->b < H.size->bV (own m (qD hh.l)) b:=fun b h1 h2=>sd3.onew b (sd5.onew b (zH2 b h1) (zM4 h2 sd3.size)) h2
   have zJY:∀ b,D5 b->b < H.size->Dg b:=fun b h1 h2=>sd3.zGR b (sd5.zGR b h1 (zM4 h2 sd3.size)) h2
   have st6:St P wd g5 (qB e6) (qD h6.l) Z5 s.H m5' zFA D5:=⟨hfz.hp,a2.vrl.mono (p:=fun _=>false) hz5 hsz hzk hkr (fun j hj=>by cases hj),st5.wd,fun b h1 h2=>st5.dis b h1 (zH2 b h2)⟩
   have st7:St P wd g5 (qB e6) (qD h6.l) Z5 (s.H.put H0.size (.loop lp)) m5' zFA D5:=by
    refine st6.other (fun _ h=>h) st6.hp.zlt (zM0 _) rfl (fun b hb h=>xP fun e=>?_) (fun b h=>?_)
    ·subst e;rcases h with h | h | h
     ·exact hl5 (zH2 _ h)
     ·exact hD5 h
     ·exact hZ5 h
    ·rcases h with h | h
     ·exact (aW st6.hp h).2
     ·exact wd.nz st6.wd b h
   refine⟨Z5,fun b=>bV (own m5' (qD h6.l)) b∨D5 b∨b=H0.size,st6.hp.zlt,⟨e6,h6,m5',D5,by rw[q02];exact hm6,by rw[q3Y];exact st7,u7,zME,fun h=>hl5 (zH2 _ h),hD5,hZ5,fun b=>Iff.rfl,a9.trans hkr,fun b h1 h2=>a10 b (zI0 b h1 (Nat.lt_trans h2 a4)) h2,fun b h1 h2=>a11 b (zJY b h1 (Nat.lt_trans h2 a4)) h2,hbase.trans a12⟩,?_⟩;refine⟨hsz,hbase,hz5,fun b h1 _ h3=>?_,fun b h1 h2=>?_,fun b h1 _=>absurd h1 (qIZ b),fun b h1 h2=>?_⟩
   ·have hb:b≠H0.size:=fun e=>h3 ((a8 b).2 (.inr (.inr e)))
    exact (xP hb).trans (keep b h1 (fun h=>h3 ((a8 b).2 (.inl h))) (fun h=>h3 ((a8 b).2 (.inr (.inl h)))) hb)
   ·rcases sd5.zGD b h1 (zM4 h2 sd3.size) with h | h | h
    ·rcases sd3.zGD b h h2 with h | h | h
     ·exact .inl h
     ·exact .inr (.inr ((a8 b).2 (.inl h)))
     ·exact .inr (.inr ((a8 b).2 (.inr (.inl h))))
    ·exact .inr (.inr ((a8 b).2 (.inl (sd3.onew b h h2))))
    ·exact .inr (.inr ((a8 b).2 (.inr (.inl (sd3.zGR b h h2)))))
   ·rcases h1 with h | h | h
    ·exact (a8 b).2 (.inl (zI0 b h h2))
    ·exact (a8 b).2 (.inr (.inl (zJY b h h2)))
    ·exact (a8 b).2 (.inr (.inr h))
theorem qYG {IT:List (FuncId×zFV)}(s:zF2 P good nat G tab)(hit:q6B P G IT){sh:Sh}{v:Operand}{ps:Array Tmp}{bx bY:Code}{x y:∀ {R':Type},Nm->GV Γ->List SV->SH->vQ Γ R'->zE9 R'}{wx wy:List Nat}{hb:SH}
 (hx:∀ {R':Type} {nm:Nm} {g:GV Γ} {env:List SV} {h:SH} {K:vQ Γ R'} {r:R'},OkH P h->okL h env->env.length=N->Keep hb h->(x nm g env h K).run=some r->qQ P G true nm wd bx g (qB env) (qD h.l) (EQ P N wx env h K r))
 (hy:∀ {R':Type} {nm:Nm} {g:GV Γ} {env:List SV} {h:SH} {K:vQ Γ R'} {r:R'},OkH P h->okL h env->env.length=N->Keep hb h->(y nm g env h K).run=some r->qQ P G true nm wd bY g (qB env) (qD h.l) (EQ P N wy env h K r))
 {g:GV Γ} {env:List SV} {h:SH} {K:vQ Γ R} (ho:OkH P h) (he:okL h env) (hl:env.length=N) (hbh:Keep hb h) (e:(q4J P G IT nm sh v ps bx bY x y g env h K).run=some r) :
 qQ P G rd nm wd (.rangeFunc v ps bx bY) g (qB env) (qD h.l) (EQ P N [] env h K r):=by
 obtain⟨h1,wk1,kp1,ho1,e⟩:=qJK (nm:=nm) ho he e;refine qQ.pre' wk1 ?_;split at e
 case h_2=>cases e
 rename_i f caps hval;split at e
 case h_2=>cases e
 rename_i ent hent;split at e
 case h_2=>cases e
 rename_i z h2 hdc;split at e
 case h_2=>cases e
 rename_i b c os hbO hcB hos;split at e
 case h_2=>cases e
 rename_i ts hts;split at e
 case h_2=>cases e
 rename_i s0 hs0;obtain⟨hck,e⟩:=qF e;simp only[zMY] at hck;obtain⟨hn,hbx,hps,hv,hcx,hcy⟩:=hck;obtain⟨_,hh0,hm0,e⟩:=mW e;obtain⟨q1,hF,e⟩:=run_bind e;obtain⟨eq,hq,hmq,eK⟩:=mW e;have he0:=qG2 hn hm0;have heq:=qG2 hn hmq;subst he0;subst heq;obtain⟨kp2,ho2,hfr⟩:=qEK ho1 hdc;have he2:okL h2 eq:=qI (kp1.trans kp2) he;have zIA:=qGX hos;obtain⟨zK6,hIt⟩:=hit f ent hent;intro Z H m zFA D hs hbs;have hpv:=qK hs.vrl v;rw[qN,hval] at hpv;simp only[SV.enc,qB] at hpv;generalize hiv:zFA.val v=iv at hpv
 cases hpv with
 | fn hf hc hfc hcc =>
 rename_i fs cs
 have hfs:fs=#[]:=by
  have:fs.size=0:=by simpa using hf.symm
  exact zOS this
 subst hfs;obtain⟨Z1,c1,r1⟩:=hfr Z H m cs.toList hs.hp ⟨by simpa using hc,fun i x v a b=>hcc i x v a (by simpa using b)⟩;have hs2:St P wd g (qB eq) (qD h2.l) Z1 H m zFA D:=hs.step c1.hp (c1.vrl hs.vrl) c1.step
 have hw0:qB (dG sh.d (svL ts s0) (blank [] 0 eq)).2=qB (b++c):=by
  have hsd:sh.d=[]:=by
   unfold noSh at hn;simp only[zMY,zP5] at hn;exact hn.1
  rw[hsd];exact (aN hs0).symm
 obtain⟨ho0,_,zK7⟩:=qQM ho2 ho2 hbO hcB hw0 hm0 zIA (qNQ hos) hbx (fun k o _ _ hk=>zM hk);have zHY:=Fz.drop hs2.hp (qAT zK7);refine s.s.zKA hv hcx hcy hiv zK6 fun lp p1 p2 p3 p4 p5 p6=>?_
 have hHL:∀ b,b < H.size->(H.push (.loop lp)).get b=H.get b:=fun b hb=>jQ hb
 have hown0:∀ b,bV (own m (qD hh0.l)) b->bV (own m (qD h2.l)) b:=fun b ⟨k,ob,h1,h2⟩=>⟨k,ob,zHY.zHL h1,h2⟩
 have hlo:¬ bV (own m (qD hh0.l)) H.size:=fun h=>zQB _ (aW zHY.hp h).1
 have hlD:¬ D H.size:=fun h=>zQB _ (wd.lt hs2.wd _ h)
 have hlZ:¬ Z1 H.size:=fun h=>zQB _ (c1.hp.zlt _ h)
 have st0:St P wd g (qB eq) (qD hh0.l) Z1 H m zFA D:=hs2.step zHY.hp (zHY.vrl hs2.vrl) zHY.step
 have st1:St P wd g (qB eq) (qD hh0.l) Z1 (H.push (.loop lp)) m zFA D:=by
  refine st0.other (fun _ h=>h) (fun b h=>zOM (c1.hp.zlt b h)) (zQK _) rfl (fun b hb _=>hHL b hb) fun b h=>?_
  rcases h with h | h
  ·exact (aW zHY.hp h).2
  ·exact wd.nz hs2.wd b h
 have hWi:(rgW P wd eq h2 zFA H m D lp (mkS P [] sh ts os eq h2)).W (gj g s0) Z1 (H.push (.loop lp)) fun b=>bV (own m (qD hh0.l)) b∨D b∨b=H.size :=
  ⟨eq,hh0,m,D,by rw[q02];exact hm0,by rw[q3Y];exact st1,jR,zNV _,hlo,hlD,hlZ,fun b=>Iff.rfl,zHY.kr _,fun b h _=>hown0 b h,fun b h _=>h,rfl⟩
 have hcall:=hIt z (GS Γ (TyL ts)) _ _ _ hF (rgW P wd eq h2 zFA H m D lp (mkS P [] sh ts os eq h2)) H.size (fun q w q' bb hstp=>by
  refine qZT (Γ:=Γ) (ent:=ent) hx hy ho2 he2 (hbh.trans (kp1.trans kp2)) hl hn zIA (ks:=h2.l.map (·.1)++(os.map (·.1)++sh.b.map (·.1))) (fun k hk=>?_) p1 p2 p3 p5 p6 ?_ (by rw[p4];exact hstp)
  ·simp only[zNM,not_or] at hk;refine⟨hk.2.1,hk.2.2,?_⟩
   cases hq:slk k h2.l with
   | none=>rfl
   | some o=>exact absurd (zNO.2 ⟨(k,o),qMC hq,rfl⟩) hk.1
  ·rw[p4];exact zMZ hps) Z1 (H.push (.loop lp)) _ cs.toList (fun b h=>zOM (c1.hp.zlt b h)) (zNP hbs (zQK _)) (c1.hp.gl.mono c1.hp.zlt (fun _ h=>h) fun b _ hb=>hHL b hb) hWi (r1.none (fun _ h=>h) (zQK _) (fun b hz hb=>hHL b hb) fun _=>rfl)
 refine⟨_,hcall,?_⟩;rintro⟨rv,H'⟩ ⟨Z',D',b1,⟨e5,h5,m5,Dg,a1,a2,a3,a4,a5,a6,a7,a8,a9,a10,a11,a12⟩,sw⟩;rw[hmq] at a1;cases a1;refine q09 a3 p1 p2 fun lp'=>?_
 obtain⟨n1,n2,n3,n4,n5,n6⟩:=uS ho2 he2 hmq;have zJL:Keep h hq:=(kp1.trans kp2).trans n1
 have stf:St P wd (Go.Sv.g1 q1) (qB eq) (qD hq.l) Z' (H'.put H.size (.loop lp')) m5 zFA Dg:=by
  refine a2.other (fun _ h=>h) b1 (zM0 _) rfl (fun b hb h=>xP fun e=>?_) (fun b h=>?_)
  ·subst e;rcases h with h | h | h
   ·exact a5 h
   ·exact a6 h
   ·exact a7 h
  ·rcases h with h | h
   ·exact (aW a2.hp h).2
   ·exact wd.nz a2.wd b h
 have hsz:H.size<=H'.size:=zNP (zQK _) sw.size;refine⟨Z',m5,qB eq,qD hq.l,Go.Sv.g1 q1,Dg,stf,⟨hsz,a12,fun b h=>sw.zle b (c1.zle b h),fun b h1 h2 h3=>?_,fun b h1 h2=>?_,fun b h1 h2=>?_,fun b h1 h2=>a11 b h1 h2⟩,((c1.kr _).trans a9).up (fun k h=>by cases h),eq,hq,rfl,rfl,n3,n2,hl,zJL,fun _=>⟨n3,n2,zJL,fun _ _=>rfl,rfl⟩,eK⟩
 ·have hb:b≠H.size:=Nat.ne_of_lt h1;refine (xP hb).trans ((sw.keep b (zOM h1) (qIZ b) ?_).trans (hHL b h1));rintro (q | q | q)
  ·obtain⟨k,ob,w1,w2⟩:=hown0 b q;exact h2 ⟨k,ob,c1.zHL w1,w2⟩
  ·exact h3 q
  ·exact hb q
 ·rcases sw.zGD b h1 (zOM h2) with q | q | q
  ·rcases c1.zGD b q with q | q
   ·exact .inl q
   ·exact .inr (.inl q)
  ·exact absurd q (qIZ b)
  ·rcases q with q | q | q
   ·obtain⟨k,ob,w1,w2⟩:=hown0 b q;exact .inr (.inl ⟨k,ob,c1.zHL w1,w2⟩)
   ·exact .inr (.inr q)
   ·exact absurd q (Nat.ne_of_lt h2)
 ·obtain⟨k,ob,w1,w2⟩:=a10 b h1 h2;exact⟨k,ob,c1.zHL w1,w2⟩
end
end Go.Sv
namespace Go.Sv
open Go.Idl
noncomputable section
variable [Gc]
variable [Frs]
variable [Yl]
variable {P:Program}{Γ:Option Type}{R:Type}{r:R}{nm:Nm}{G:Nat->Bool}{N:Nat}{rs:List Ty}{tab:uQ}{nat:xA}{good:FuncId->Bool}{wd:Wld (GV Γ)}
def zB5 (an:An)(id:Nat):List (Nat×TypeId):=match lkA id an.fz with
 | some l=>l
 | none=>[]
def wr (an:An):Code->List Nat
 | .region id ops _=>(zB5 an id).map (·.1)++(ops.toList.filterMap (·.dst)++(zB5 an (id+1000000)).map (·.1))
 | .seq a b=>wr an a++wr an b
 | .cond _ a b=>wr an a++wr an b
 | .block id x=>match lkA id an.lp with
   | some sh=>lpW (wr an x) sh
   | none=>wr an x
 | .loop x=>wr an x
 | .scope x=>wr an x
 | _=>[]
def nx2:List Oper->Option (Operand×Nat×Nat)
 | [⟨some d1,.next x false,_,_,_,none⟩,⟨some d2,.extract (.tmp e1) 0,_,_,_,none⟩]=>cond (Nat.beq d1 e1) (some (x,d1,d2)) none
 | _=>none
def zBS (id:Nat)(body:∀ {R':Type},GV Γ->List SV->SH->vQ Γ R'->zE9 R')(K:vQ Γ R):Nat->GV Γ->List SV->SH->zE9 R
 | 0,_,_,_=>.fail
 | n+1,g,env,h=>body g env h fun e g env h=>match e with
   | .normal=>zBS id body K n g env h
   | .exit i=>cond (Nat.beq i id) (K .normal g env h) (K (.exit i) g env h)
   | .ret=>K .ret g env h
   | .goto _=>.fail
def shN (nm:Nm)(k:Nat):Nm:=⟨nm.b+k,nm.p⟩
def qUP (id s:Nat)(body:∀ {R':Type},Nm->GV Γ->List SV->SH->vQ Γ R'->zE9 R')(K:vQ Γ R):Nat->Nm->GV Γ->List SV->SH->zE9 R
 | 0,_,_,_,_=>.fail
 | n+1,nm,g,env,h=>body nm g env h fun e g env h=>match e with
   | .normal=>qUP id s body K n (shN nm s) g env h
   | .exit i=>cond (Nat.beq i id) (K .normal g env h) (K (.exit i) g env h)
   | .ret=>K .ret g env h
   | .goto _=>.fail
def zE4:List (Nat×TypeId)->Nat
 | (s,_)::_=>s
 | []=>0
def zE1 (y:GV Γ->List SV->SH->vQ Γ R->zE9 R)(K:vQ Γ R):vQ Γ R:=fun e g env h=>match e with
 | .normal=>y g env h K
 | e=>K e g env h
def zE8 (K:vQ Γ R):vQ Γ R:=fun e g env h=>match e with
 | .goto _=>.fail
 | e=>K e g env h
def frC:Code->Option Nat
 | .region id _ _=>some id
 | .seq a _=>frC a
 | .scope x=>frC x
 | .block _ x=>frC x
 | .loop x=>frC x
 | _=>none
def jnR (an:An):Code->Option zHU
 | .region id _ _=>lkA (id+2000000) an.jn
 | _=>none
def jnE (an:An)(a b:Code):Option zHU:=match jnR an a with
 | some j=>some j
 | none=>(match frC b with
   | some id=>lkA id an.jn
   | none=>none)
def zDM:Operand->Nat
 | .tmp t=>t
 | _=>0
section
variable (P:Program)(G:Nat->Bool)(T:yY)(IT:List (FuncId×zFV))(CI:CIT)(Y:YI (GV Γ))(an:An)(rdv:List SV->SH->Option (TyL rs))(en:TyL rs->List SV)(hb:SH)
def ev:Code->{R:Type}->Bool->Nm->GV Γ->List SV->SH->vQ Γ R->zE9 R
 | .skip,_,_,_,g,env,h,K=>K .normal g env h
 | .label _,_,_,_,g,env,h,K=>K .normal g env h
 | .ret,_,_,_,g,env,h,K=>K .ret g env h
 | .exit id,_,_,_,g,env,h,K=>K (.exit id) g env h
 | .seq a b,_,rd,nm,g,env,h,K=>(match jnE an a b with
   | some j=>zBZ P (wr an a) j (fun {_}=>ev a rd nm) g env h fun g env h=>ev b rd nm g env h K
   | none=>ev a rd nm g env h (zE1 (ev b rd nm) K))
 | .cond v a b,_,rd,nm,g,env,h,K=>cond (kR G v) (match asB (xS env v) with
   | some t=>.ite t (ev a rd nm g env h K) (ev b rd nm g env h K)
   | none=>(match xS env v with
     | .bq=>.both (ev a rd nm g env h K) (ev b rd nm g env h K)
     | _=>.fail)) .fail
 | .region id ops d,_,rd,nm,g,env,h,K=>fzv P nm (zB5 an id) env h fun env h=>zC4 P G T CI Y nm ops d g env h fun g env h=>fzv P nm (zB5 an (id+1000000)) env h fun env h=>K .normal g env h
 | .block id (.loop y),_,rd,nm,g,env,h,K=>(match lkA id an.lp with
   | some sh=>(match lkA id an.ab with
     | none=>zAE P nm (wr an y) (lpW (wr an y) sh) rdv en hb sh id (fun {_}=>ev y rd nm) g env h K
     | some _=>.fail)
   | none=>(match lkA (id+3000000) an.fz with
     | some l=>qUP id (zE4 l) (fun {_} nm=>ev y rd nm) K 24 nm g env h
     | none=>zBS id (fun {_}=>ev y rd nm) K 24 g env h))
 | .block id x,_,rd,nm,g,env,h,K=>(match lkA id an.lp with
   | some _=>.fail
   | none=>ev x rd nm g env h (zEL id K))
 | .scope x,_,rd,nm,g,env,h,K=>ev x rd nm g env h (zE8 K)
 | .rangeFunc v ps x y,_,rd,nm,g,env,h,K=>(match lkA (zDM v) an.rg with
   | some sh=>q4J P G IT nm sh v ps x y (fun {_}=>ev x true) (fun {_}=>ev y true) g env h K
   | none=>.fail)
 | _,_,_,_,_,_,_,_=>.fail
end
theorem EQ.go {w w2:List Nat}{env zFG:List SV}{h h1:SH}{K:vQ Γ R}{e:zGB}{g:GV Γ}{pe:List PV}{ph:PHp}(a:xJ P w env h zFG h1)(b:EQ P N w2 zFG h1 K r e g pe ph):EQ P N (w++w2) env h K r e g pe ph:=by
 obtain⟨env',h',b1,b2,b3,b4,b5,b0,b6,b7⟩:=b;exact⟨env',h',b1,b2,b3,b4,b5,a.2.2.1.trans b0,fun hne=>a.trans (b6 hne),b7⟩
theorem EQ.up {w w2:List Nat}{env:List SV}{h:SH}{K:vQ Γ R}{e:zGB}{g:GV Γ}{pe:List PV}{ph:PHp}(hw:∀ i∈w,i∈w2)(b:EQ P N w env h K r e g pe ph):EQ P N w2 env h K r e g pe ph:=by
 obtain⟨env',h',b1,b2,b3,b4,b5,b0,b6,b7⟩:=b;exact⟨env',h',b1,b2,b3,b4,b5,b0,fun hne=>(b6 hne).up hw,b7⟩
theorem EQ.now {w:List Nat}{env:List SV}{h:SH}{K:vQ Γ R}{e:zGB}{g:GV Γ}(ho:OkH P h)(he:okL h env)(hl:env.length=N)(hk:(K e g env h).run=some r):EQ P N w env h K r e g (qB env) (qD h.l) :=
 ⟨env,h,rfl,rfl,he,ho,hl,.refl _,fun _=>(xJ.refl ho he).up fun i hi=>by (cases hi),hk⟩
theorem zC6 {id:Nat}{w:List Nat}{env:List SV}{h:SH}{K:vQ Γ R}{e:zGB}{g:GV Γ}{pe:List PV}{ph:PHp}(b:EQ P N w env h (zEL id K) r e g pe ph):BQY id (EQ P N w env h K r) e g pe ph:=by
 obtain⟨env',h',b1,b2,b3,b4,b5,b0,b6,b7⟩:=b
 cases e with
 | normal=>exact BQY.go ⟨env',h',b1,b2,b3,b4,b5,b0,b6,b7⟩
 | ret=>exact BQY.rt ⟨env',h',b1,b2,b3,b4,b5,b0,b6,b7⟩
 | goto l=>exact⟨env',h',b1,b2,b3,b4,b5,b0,b6,b7⟩
 | exit i =>
   have b8:(cond (Nat.beq i id) (K .normal g env' h') (K (.exit i) g env' h')).run=some r:=b7
   cases hi:Nat.beq i id with
   | true =>
     rw[hi] at b8;have:=zMZ hi;subst this;exact BQY.on ⟨env',h',b1,b2,b3,b4,b5,b0,fun _=>b6 fun h=>by (cases h),b8⟩
   | false =>
     rw[hi] at b8;exact BQY.ex (fun h=>by rw[h,aA] at hi;cases hi) ⟨env',h',b1,b2,b3,b4,b5,b0,b6,b8⟩
omit [Yl] in
theorem q13 {ops:List Oper}{i:Nat}(h:i ∉ ops.filterMap (·.dst)):some i ∉ ops.map (·.dst):=fun hm=>by
 obtain⟨o,h1,h2⟩:=zNO.1 hm;exact h (zPG.2 ⟨o,h1,h2⟩)
def q8M (P:Program)(G:Nat->Bool)(T:yY)(IT:List (FuncId×zFV))(CI:CIT)(Y:YI (GV Γ))(an:An)(rdv:List SV->SH->Option (TyL rs))(en:TyL rs->List SV)(hb:SH)(N:Nat)(wd:Wld (GV Γ))(rd:Bool)(nm:Nm)(c:Code):Prop :=
 ∀ {R:Type} {g:GV Γ} {env:List SV} {h:SH} {K:vQ Γ R} {r:R},OkH P h->okL h env->env.length=N->Keep hb h->(ev P G T IT CI Y an rdv en hb c rd nm g env h K).run=some r->qQ P G rd nm wd c g (qB env) (qD h.l) (EQ P N (wr an c) env h K r)
theorem q51 {w:List Nat}{id:Nat}{y:Code}{hb:SH}{body:∀ {R':Type},GV Γ->List SV->SH->vQ Γ R'->zE9 R'}{rd:Bool}
 (hbody:∀ {R':Type} {g:GV Γ} {env:List SV} {h:SH} {K:vQ Γ R'} {r:R'},OkH P h->okL h env->env.length=N->Keep hb h->(body g env h K).run=some r->qQ P G rd nm wd y g (qB env) (qD h.l) (EQ P N w env h K r))
 {g:GV Γ} {env:List SV} {h:SH} {K:vQ Γ R} {n:Nat} (ho:OkH P h) (he:okL h env) (hl:env.length=N) (hbh:Keep hb h) (e:(zBS id (fun {_}=>body) K n g env h).run=some r) :
 qQ P G rd nm wd (.block id (.loop y)) g (qB env) (qD h.l) (EQ P N w env h K r):=by
 refine qQ.zJV (fun n g1 pe ph=>∃ zFG h1,pe=qB zFG∧ph=qD h1.l∧okL h1 zFG∧OkH P h1∧zFG.length=N∧Keep h h1∧xJ P w env h zFG h1∧(zBS id (fun {_}=>body) K n g1 zFG h1).run=some r) ?_ (n:=n) ⟨env,h,rfl,rfl,he,ho,hl,.refl _,(xJ.refl ho he).up fun i hi=>by (cases hi),e⟩;rintro n1 g1 pe ph ⟨zFG,h1,rfl,rfl,b3,b4,b5,b6,b7,b8⟩
 cases n1 with
 | zero=>cases b8
 | succ n1 =>
   unfold zBS at b8;refine (hbody b4 b3 b5 (hbh.trans b6) b8).mono ?_;rintro x g2 pe ph ⟨env',h',rfl,rfl,c3,c4,c5,c0,c6,c7⟩
   have up:x≠.ret->xJ P w env h env' h':=fun hne=>(b7.trans (c6 hne)).up fun i hi=>by
    rcases zNM.1 hi with q | q <;> exact q
   cases x with
   | normal=>exact⟨n1,zNV _,env',h',rfl,rfl,c3,c4,c5,b6.trans c0,up fun h=>by (cases h),c7⟩
   | ret=>exact BQY.rt ⟨env',h',rfl,rfl,c3,c4,c5,b6.trans c0,fun hne=>absurd rfl hne,c7⟩
   | goto l=>cases c7
   | exit i =>
     have c8:(cond (Nat.beq i id) (K .normal g2 env' h') (K (.exit i) g2 env' h')).run=some r:=c7
     cases hi:Nat.beq i id with
     | true =>
       rw[hi] at c8;have:=zMZ hi;subst this;exact BQY.on ⟨env',h',rfl,rfl,c3,c4,c5,b6.trans c0,fun _=>up fun h=>by (cases h),c8⟩
     | false =>
       rw[hi] at c8;exact BQY.ex (fun h=>by rw[h,aA] at hi;cases hi) ⟨env',h',rfl,rfl,c3,c4,c5,b6.trans c0,fun _=>up fun h=>by (cases h),c8⟩
theorem q7M {nm':Nm}{wd:Wld (GV Γ)}{rd:Bool}{c:Code}{g:GV Γ}{env:List PV}{ph:PHp}{Q:YQ (GV Γ)}(h:qQ P G rd nm' wd c g env ph Q)(e:nm'.p=nm.p):qQ P G rd nm wd c g env ph Q:=by
 have e2:inP nm'=inP nm:=e;unfold qQ at h ⊢;rw[e2] at h;exact h
theorem q2D {sf:Nat}{w:List Nat}{id:Nat}{y:Code}{hb:SH}{body:∀ {R':Type},Nm->GV Γ->List SV->SH->vQ Γ R'->zE9 R'}{rd:Bool}
 (hbody:∀ {R':Type} {nm':Nm} {g:GV Γ} {env:List SV} {h:SH} {K:vQ Γ R'} {r:R'},OkH P h->okL h env->env.length=N->Keep hb h->(body nm' g env h K).run=some r->qQ P G rd nm' wd y g (qB env) (qD h.l) (EQ P N w env h K r))
 {g:GV Γ} {env:List SV} {h:SH} {K:vQ Γ R} {n:Nat} {nm1:Nm} (hnm:nm1.p=nm.p) (ho:OkH P h) (he:okL h env) (hl:env.length=N) (hbh:Keep hb h) (e:(qUP id sf (fun {_}=>body) K n nm1 g env h).run=some r) :
 qQ P G rd nm wd (.block id (.loop y)) g (qB env) (qD h.l) (EQ P N w env h K r):=by
 refine qQ.zJV (fun n g1 pe ph=>∃ zFG h1,pe=qB zFG∧ph=qD h1.l∧okL h1 zFG∧OkH P h1∧zFG.length=N∧Keep h h1∧xJ P w env h zFG h1∧∃ nm2:Nm,nm2.p=nm.p∧(qUP id sf (fun {_}=>body) K n nm2 g1 zFG h1).run=some r) ?_ (n:=n) ⟨env,h,rfl,rfl,he,ho,hl,.refl _,(xJ.refl ho he).up fun i hi=>by (cases hi),nm1,hnm,e⟩;rintro n1 g1 pe ph ⟨zFG,h1,rfl,rfl,b3,b4,b5,b6,b7,nm2,bp,b8⟩
 cases n1 with
 | zero=>cases b8
 | succ n1 =>
   unfold qUP at b8;refine qQ.mono (q7M (hbody b4 b3 b5 (hbh.trans b6) b8) bp) ?_;rintro x g2 pe ph ⟨env',h',rfl,rfl,c3,c4,c5,c0,c6,c7⟩
   have up:x≠.ret->xJ P w env h env' h':=fun hne=>(b7.trans (c6 hne)).up fun i hi=>by
    rcases zNM.1 hi with q | q <;> exact q
   cases x with
   | normal=>exact⟨n1,zNV _,env',h',rfl,rfl,c3,c4,c5,b6.trans c0,up fun h=>by (cases h),shN nm2 sf,bp,c7⟩
   | ret=>exact BQY.rt ⟨env',h',rfl,rfl,c3,c4,c5,b6.trans c0,fun hne=>absurd rfl hne,c7⟩
   | goto l=>cases c7
   | exit i =>
     have c8:(cond (Nat.beq i id) (K .normal g2 env' h') (K (.exit i) g2 env' h')).run=some r:=c7
     cases hi:Nat.beq i id with
     | true =>
       rw[hi] at c8;have:=zMZ hi;subst this;exact BQY.on ⟨env',h',rfl,rfl,c3,c4,c5,b6.trans c0,fun _=>up fun h=>by (cases h),c8⟩
     | false =>
       rw[hi] at c8;exact BQY.ex (fun h=>by rw[h,aA] at hi;cases hi) ⟨env',h',rfl,rfl,c3,c4,c5,b6.trans c0,fun _=>up fun h=>by (cases h),c8⟩
theorem qXM {T:yY}{IT:List (FuncId×zFV)}{CI:CIT}{Y:YI (GV Γ)}{an:An}{rdv:List SV->SH->Option (TyL rs)}{en:TyL rs->List SV}{hb:SH}{rd:Bool}{id:Nat}{y:Code}(s:zF2 P good nat G tab)(hrd:zH9 P nm N hb rdv en)
 (hY:q8M P G T IT CI Y an rdv en hb N wd rd nm y) (hYn:∀ nm',q8M P G T IT CI Y an rdv en hb N wd rd nm' y) (hZ:∀ rid ops t j z,y=.seq (.region rid ops false) (.seq (.cond (.tmp t) .skip (.exit j)) z)->q8M P G T IT CI Y an rdv en hb N wd rd nm z)
 {g:GV Γ} {env:List SV} {h:SH} {K:vQ Γ R} (ho:OkH P h) (he:okL h env) (hl:env.length=N) (hbh:Keep hb h) (e:(ev P G T IT CI Y an rdv en hb (.block id (.loop y)) rd nm g env h K).run=some r) :
 qQ P G rd nm wd (.block id (.loop y)) g (qB env) (qD h.l) (EQ P N (wr an (.block id (.loop y))) env h K r):=by
 have e1:=e;unfold ev at e1;split at e1
 ·rename_i sh hsh;have hw:wr an (.block id (.loop y))=lpW (wr an y) sh:=by simp only[wr,hsh]
  rw[hw];split at e1
  ·exact q0O hrd rfl hY ho he hl hbh e1
  ·cases e1
 ·rename_i hn;have hw:wr an (.block id (.loop y))=wr an y:=by simp only[wr,hn]
  rw[hw];split at e1
  ·exact q2D (nm1:=nm) (fun ho he hl hbh e=>hYn _ ho he hl hbh e) rfl ho he hl hbh e1
  ·exact q51 hY ho he hl hbh e1
theorem jA [zFW P G]{T:yY}{IT:List (FuncId×zFV)}{CI:CIT}{Y:YI (GV Γ)}{an:An}{rdv:List SV->SH->Option (TyL rs)}{en:TyL rs->List SV}{hb:SH}(s:zF2 P good nat G tab)(ht:qRC tab T)(hit:q6B P G IT)(hci:qYZ P G CI)(hy:YOk P G wd Y)(hrd:∀ nm,zH9 P nm N hb rdv en) :
 ∀ (c:Code),(∀ rd nm,q8M P G T IT CI Y an rdv en hb N wd rd nm c)∧∀ a b,c=.seq a b->(∀ rd nm,q8M P G T IT CI Y an rdv en hb N wd rd nm b)∧∀ a' b',b=.seq a' b'->∀ rd nm,q8M P G T IT CI Y an rdv en hb N wd rd nm b'
 | .skip=>⟨fun rd nm {_ g env h K r} ho he hl hbh e=>.skip (.now ho he hl e),fun a b h=>by cases h⟩
 | .label _=>⟨fun rd nm {_ g env h K r} ho he hl hbh e=>.label (.now ho he hl e),fun a b h=>by cases h⟩
 | .ret=>⟨fun rd nm {_ g env h K r} ho he hl hbh e=>.ret (.now ho he hl e),fun a b h=>by cases h⟩
 | .exit id=>⟨fun rd nm {_ g env h K r} ho he hl hbh e=>.exit (.now ho he hl e),fun a b h=>by cases h⟩
 | .seq a b=>by
   refine⟨fun rd nm {_ g env h K r} ho he hl hbh e=>?_,fun a' b' hh=>by
    cases hh
    exact⟨(jA s ht hit hci hy hrd b).1,fun a2 b2 h2=>((jA s ht hit hci hy hrd b).2 a2 b2 h2).1⟩⟩
   unfold ev at e;split at e
   ·refine .seq ((q2G (fun e1=>(jA s ht hit hci hy hrd a).1 _ _ ho he hl hbh e1) ho he hl e).mono fun x g' pe ph hq=>?_);obtain⟨rfl,zFS,h2,rfl,rfl,b1,b2,b3,b4,b5⟩:=hq;show qQ P G rd nm wd b g' _ _ _;exact ((jA s ht hit hci hy hrd b).1 _ _ b1 b2 b3 (hbh.trans b4.2.2.1) b5).mono fun x g' pe ph hq=>EQ.go b4 hq
   refine .seq (((jA s ht hit hci hy hrd a).1 _ _ ho he hl hbh e).mono fun x g' pe ph hq=>?_);obtain⟨env',h',b1,b2,b3,b4,b5,b0,b6,b7⟩:=hq
   cases x with
   | normal =>
     have b7:(ev P G T IT CI Y an rdv en hb b rd nm g' env' h' K).run=some r:=b7;subst b1 b2;show qQ P G rd nm wd b g' _ _ _;refine ((jA s ht hit hci hy hrd b).1 _ _ b4 b3 b5 (hbh.trans b0) b7).mono fun x g' pe ph hq=>?_
     exact EQ.go (b6 fun h=>by (cases h)) hq
   | exit i=>exact⟨env',h',b1,b2,b3,b4,b5,b0,fun hne=>(b6 hne).up fun i hi=>zOC _ hi,b7⟩
   | ret=>exact⟨env',h',b1,b2,b3,b4,b5,b0,fun hne=>absurd rfl hne,b7⟩
   | goto l=>exact⟨env',h',b1,b2,b3,b4,b5,b0,fun hne=>(b6 hne).up fun i hi=>zOC _ hi,b7⟩
 | .cond v a b=>by
   refine⟨fun rd nm {_ g env h K r} ho he hl hbh e=>?_,fun a b h=>by cases h⟩;obtain⟨c1,e1⟩:=qF e;split at e1
   ·rename_i t hv;have hpv:qJ (qB env) v=fvv (.bool t):=by rw[qN];exact rG hv
    rcases run_ite e1 with ⟨z,e2⟩ | ⟨z,e2⟩
    ·exact .cond c1 hpv (fun _=>((jA s ht hit hci hy hrd a).1 _ _ ho he hl hbh e2).mono fun x g pe ph hq=>hq.up fun i hi=>zOC _ hi) (fun hf=>by rw[z] at hf;cases hf)
    ·exact .cond c1 hpv (fun hf=>by rw[z] at hf;cases hf) (fun _=>((jA s ht hit hci hy hrd b).1 _ _ ho he hl hbh e2).mono fun x g pe ph hq=>hq.up fun i hi=>zOX _ hi)
   ·split at e1
    case h_2=>cases e1
    rename_i hv;have hpv:qJ (qB env) v=.bq:=by rw[qN,hv];simp[SV.enc]
    obtain⟨e2,e3⟩:=q1K e1;exact .zKY c1 hpv (((jA s ht hit hci hy hrd a).1 _ _ ho he hl hbh e2).mono fun x g pe ph hq=>hq.up fun i hi=>zOC _ hi) (((jA s ht hit hci hy hrd b).1 _ _ ho he hl hbh e3).mono fun x g pe ph hq=>hq.up fun i hi=>zOX _ hi)
 | .region id ops d=>by
   refine⟨fun rd nm {_ g env h K r} ho he hl hbh e=>?_,fun a b h=>by cases h⟩;obtain⟨zFG,h1,w1,q1,e1⟩:=qOV (nm:=nm) ho he e;refine qQ.pre' w1 (qQ.post ((q4X s ht hci hy q1.2.1 q1.1 e1).mono ?_));rintro x g' pe ph ⟨rfl,env',h',rfl,rfl,b3,b4⟩;obtain⟨zFS,h2,w2,q2,e2⟩:=qOV (nm:=nm) b3.2.1 b3.1 b4
   have b5:xJ P (ops.toList.filterMap (·.dst)) zFG h1 env' h':=⟨b3.1,b3.2.1,b3.2.2.1,fun i hi=>b3.2.2.2.1 i (q13 hi),b3.2.2.2.2⟩
   have b6:=b5.trans q2;exact⟨qB zFS,qD h2.l,w2,EQ.go q1 ⟨zFS,h2,rfl,rfl,q2.1,q2.2.1,by rw[b6.2.2.2.2,q1.2.2.2.2,hl],b6.2.2.1,fun _=>b6,e2⟩⟩
 | .block id x=>by
   refine⟨fun rd nm {_ g env h K r} ho he hl hbh e=>?_,fun a b h=>by cases h⟩
   cases x with
   | loop y =>
     exact qXM s (hrd nm) ((jA s ht hit hci hy hrd y).1 _ _) (fun nm'=>(jA s ht hit hci hy hrd y).1 _ nm') (fun rid ops t j z hz=>((jA s ht hit hci hy hrd y).2 _ _ hz).2 _ _ rfl _ _) ho he hl hbh e
   | _ =>
     all_goals
      have e1:=e;unfold ev at e1;split at e1
      ·cases e1
      ·rename_i hn;simp only[wr,hn];exact .block (((jA s ht hit hci hy hrd _).1 _ _ ho he hl hbh e1).mono fun x g pe ph hq=>zC6 hq)
 | .loop _=>⟨fun rd nm {_ _ _ _ _ _} _ _ _ _ e=>(by cases e),fun a b h=>by cases h⟩
 | .rangeFunc v ps x y=>by
   refine⟨fun rd nm {_ g env h K r} ho he hl hbh e=>?_,fun a b h=>by cases h⟩;unfold ev at e;split at e
   ·rename_i sh hsh;exact qYG s hit (fun ho he hl hbh e=>(jA s ht hit hci hy hrd x).1 _ _ ho he hl hbh e) (fun ho he hl hbh e=>(jA s ht hit hci hy hrd y).1 _ _ ho he hl hbh e) ho he hl hbh e
   ·cases e
 | .scope x=>by
   refine⟨fun rd nm {_ g env h K r} ho he hl hbh e=>?_,fun a b h=>by cases h⟩;refine .scope (((jA s ht hit hci hy hrd x).1 _ _ ho he hl hbh e).mono fun ex g' pe ph hq=>?_);obtain⟨env',h',b1,b2,b3,b4,b5,b0,b6,b7⟩:=hq
   cases ex with
   | goto l=>cases b7
   | normal=>exact⟨fun _ h=>by (cases h),env',h',b1,b2,b3,b4,b5,b0,b6,b7⟩
   | ret=>exact⟨fun _ h=>by (cases h),env',h',b1,b2,b3,b4,b5,b0,b6,b7⟩
   | exit i=>exact⟨fun _ h=>by (cases h),env',h',b1,b2,b3,b4,b5,b0,b6,b7⟩
 | .goto _=>⟨fun rd nm {_ _ _ _ _ _} _ _ _ _ e=>(by cases e),fun a b h=>by cases h⟩
 | .refuse _=>⟨fun rd nm {_ _ _ _ _ _} _ _ _ _ e=>(by cases e),fun a b h=>by cases h⟩
theorem q77 [zFW P G]{T:yY}{IT:List (FuncId×zFV)}{CI:CIT}{Y:YI (GV Γ)}{an:An}{rdv:List SV->SH->Option (TyL rs)}{en:TyL rs->List SV}{hb:SH}(s:zF2 P good nat G tab)(ht:qRC tab T)(hit:q6B P G IT)(hci:qYZ P G CI)(hy:YOk P G wd Y)(hrd:∀ nm,zH9 P nm N hb rdv en) :
 ∀ (c:Code) {R:Type} {rd:Bool} {nm:Nm} {g:GV Γ} {env:List SV} {h:SH} {K:vQ Γ R} {r:R},OkH P h->okL h env->env.length=N->Keep hb h->(ev P G T IT CI Y an rdv en hb c rd nm g env h K).run=some r->qQ P G rd nm wd c g (qB env) (qD h.l) (EQ P N (wr an c) env h K r) :=
 fun c {R rd nm g env h K r} ho he hl hbh e=>(jA s ht hit hci hy hrd c).1 rd nm ho he hl hbh e
end
end Go.Sv
namespace Go.Sv
open Go.Idl
noncomputable section
variable [Gc]
variable [Frs]
variable [Yl]
variable {P:Program}{R:Type}{r:R}{nm:Nm}{G:Nat->Bool}{N:Nat}{tab:uQ}{good:FuncId->Bool}
def uX (P:Program)(ty:TypeId)(t:Ty):Bool:=match qPK P ty with
 | some true=>!t.one&&(match szT P ty with
   | some n=>Nat.beq n t.w
   | none=>false)
 | some false=>t.one
 | none=>false
omit [Yl] in
theorem qRW {ty:TypeId}{t:Ty}{x:t.sem}{ph:PHp}(e:uX P ty t=true):fH P ty (q8R t x) ph=some (t.pv x):=by
 unfold uX at e;show qMV P ty (t.cells x) 0=_;unfold qMV Ty.pv;split at e
 ·rename_i h1;rw[h1];simp only;split at e
  ·rename_i n hn;rw[hn];rw[zMY] at e;have h2:n=t.w:=zMZ e.2;have h3:t.one=false:=by simpa using e.1
   subst h2;have h4:Nat.ble (0+t.w) (t.cells x).length=true:=zNL (by rw[t.zFJ];omega);simp only[h4,cond_true,h3,cond_false,zOH];rw[zNR (by rw[t.zFJ];exact zM0 _)]
  ·rw[zMY] at e;cases e.2
 ·rename_i h1;rw[h1];simp only[e,cond_true];rw[Ty.cells_one e];rfl
 ·cases e
def qYS:ResultVar->Nat
 | .tmp t=>t
 | .cell a _=>a
def qSU:ResultVar->Option TypeId
 | .tmp _=>none
 | .cell _ ty=>some ty
def zBH (ty:TypeId)(v:SV)(h:SH):Bool:=match v with
 | .ref k _ _=>(match slk k h.l with
   | some (.cells el _ _)=>Nat.beq el ty
   | _=>false)
 | _=>false
theorem qWP {ty:TypeId}{t:Ty}{v:SV}{h:SH}{x:t.sem}{h':SH}(ho:OkH P h)(e:qAK P t v h=some (x,h'))(hel:zBH ty v h=true)(h1:t.one=false):rt1 P ty (t.pv x)=t.pv x:=by
 unfold qAK at e;unfold zBH at hel;split at e
 case h_2=>cases e
 rename_i k off w;split at e
 case h_2=>cases e
 rename_i el w0 l hk;simp only[hk] at hel;have hel:el=ty:=zMZ hel;subst hel
 cases hc:(!spec P el&&(Nat.beq off 0&&Nat.beq w l.length)) with
 | false=>rw[hc] at e;cases e
 | true =>
   rw[hc] at e;simp only[cond_true] at e;split at e
   case h_2=>cases e
   rename_i y zFQ h2 hd;cases e;have hd0:=fI (k:=k) ho;obtain⟨a1,a2,a3,ys,a4,a5⟩:=qBA hd0.2 (qI hd0.1 (ho.cells _ _ _ _ hk)) hd;unfold Ty.pv;rw[h1];show PV.agg (rtL (rtC P) (vS P 8 el) ((t.cells x).map .f))=_;have:=(a5 []).2;rw[zOT] at this;rw[this];cases zFQ <;> simp[rtL]
def olL:List TypeId->Ty->Option (List TypeId)
 | tys,.pair a b=>(match olL tys a with
   | some r=>olL r b
   | none=>none)
 | ty::tys,.ol _ _=>cond (Gc.ol ty) (some tys) none
 | [],.ol _ _=>none
 | tys,t=>cond t.nol (some (tys.drop t.w)) none
def zB7 (t:Ty)(v:SV):Option t.sem:=match v with
 | .lp t' [x] 0 0=>if e:t'=t then some (e ▸ x) else none
 | _=>none
omit [Yl] in
theorem q2F {t:Ty}{v:SV}{x:t.sem}(e:zB7 t v=some x):v=.lp t [x] 0 0:=by
 unfold zB7 at e;split at e
 ·rename_i t' y;split at e
  ·rename_i h;subst h;cases e;rfl
  ·cases e
 ·cases e
def qZJ (P:Program)(c:Option TypeId)(ty:TypeId)(t:Ty)(v:SV)(h:SH):Option (t.sem×SH):=match c with
 | none=>q7C P ty t v h
 | some ty2=>match zB7 t v with
   | some x=>cond (uX P ty2 t&&(t.nol||(!t.one&&(olL (vS P 8 ty) t).isSome))) (some (x,h)) none
   | none=>cond (uX P ty2 t&&(t.nol||(!t.one&&zBH ty v h))) (qAK P t v h) none
def qHR (c:Option TypeId)(t:Ty)(x:t.sem):SV:=match c with
 | none=>t.sv x
 | some _=>.lp t [x] 0 0
def qK3 (P:Program):List (Option TypeId)->List TypeId->(ts:List Ty)->List SV->SH->Option (TyL ts×SH)
 | [],_,[],[],h=>some ((),h)
 | c::cs,ty::_,[t],v::vs,h=>(match cs,vs with
   | [],[]=>qZJ P c ty t v h
   | _,_=>none)
 | c::cs,ty::tys,t::u::ts,v::vs,h=>match qZJ P c ty t v h with
   | some (x,h1)=>(match qK3 P cs tys (u::ts) vs h1 with
     | some (y,h2)=>some ((x,y),h2)
     | none=>none)
   | none=>none
 | _,_,_,_,_=>none
def svM:List (Option TypeId)->(ts:List Ty)->TyL ts->List SV
 | _,[],_=>[]
 | c::_,[t],x=>[qHR c t x]
 | [],[t],x=>[t.sv x]
 | c::cs,t::u::ts,x=>qHR c t x.1::svM cs (u::ts) x.2
 | [],t::u::ts,x=>t.sv x.1::svM [] (u::ts) x.2
omit [Yl] in
theorem qTZ {h:SH}(c:Option TypeId)(t:Ty)(x:t.sem):(qHR c t x).ok h:=by
 cases c with
 | none=>exact qKV t x
 | some _=>simp[qHR,SV.ok]
omit [Yl] in
theorem qSZ {h:SH}:∀ (cs:List (Option TypeId)) (ts:List Ty) (x:TyL ts),okL h (svM cs ts x)
 | _,[],_=>by simp[svM,okL]
 | c::_,[t],x=>by simp only[svM,okL];exact⟨qTZ c t x,trivial⟩
 | [],[t],x=>by simp only[svM,okL];exact⟨qKV t x,trivial⟩
 | c::cs,t::u::ts,x=>by
   show okL h (qHR c t x.1::svM cs (u::ts) x.2);simp only[okL];exact⟨qTZ c t x.1,qSZ cs (u::ts) x.2⟩
 | [],t::u::ts,x=>by
   show okL h (t.sv x.1::svM [] (u::ts) x.2);simp only[okL];exact⟨qKV t x.1,qSZ [] (u::ts) x.2⟩
omit [Yl] in
theorem qM5:∀ (cs:List (Option TypeId)) (ts:List Ty) (x:TyL ts),(svM cs ts x).length=ts.length
 | _,[],_=>by simp[svM]
 | c::_,[t],x=>rfl
 | [],[t],x=>rfl
 | c::cs,t::u::ts,x=>by
   show (qHR c t x.1::svM cs (u::ts) x.2).length=_;simp only[zNZ,qM5 cs (u::ts)]
 | [],t::u::ts,x=>by
   show (t.sv x.1::svM [] (u::ts) x.2).length=_;simp only[zNZ,qM5 [] (u::ts)]
theorem qN8 (c:Option TypeId)(t:Ty)(x:t.sem)(Z:Nat->Prop)(H:IH)(M M':Nat->Option (Nat×PO))(v:Value)(h:VR P Z H M (qHR c t x).enc v):VR P Z H M' (qHR c t x).enc v:=by
 cases c with
 | none =>
   simp only[qHR,nC] at h ⊢;exact bO h (qU7 t x)
 | some _ =>
   simp only[qHR,SV.enc] at h ⊢
   cases h with
   | lp a b c d=>exact .lp a b c d
omit [Yl] in
theorem tL {ty:TypeId}:∀ (t:Ty) (x:t.sem) (c:FV),t.nol=true->c∈t.cells x->rt0 P ty (.f c)=.f c
 | .int _,x,c,_,h=>by simp only[Ty.cells,zNT] at h;subst h;rfl
 | .bool,x,c,_,h=>by simp only[Ty.cells,zNT] at h;subst h;rfl
 | .str,x,c,_,h=>by simp only[Ty.cells,zNT] at h;subst h;rfl
 | .raw,x,c,_,h=>by simp only[Ty.cells,zNT] at h;subst h;rfl
 | .nif,x,c,_,h=>by simp only[Ty.cells,zNT] at h;subst h;rfl
 | .fnv _,x,c,_,h=>by simp only[Ty.cells,zNT] at h;subst h;rfl
 | .list _ _,x,c,_,h=>by simp only[Ty.cells,zNT] at h;subst h;rfl
 | .unit,x,c,_,h=>by cases h
 | .pair a b,x,c,hn,h=>by
   have h:c∈a.cells x.1++b.cells x.2:=h;have hn:(a.nol&&b.nol)=true:=hn;rw[zMY] at hn;rcases zNM.1 h with q | q
   ·exact tL a _ _ hn.1 q
   ·exact tL b _ _ hn.2 q
omit [Yl] in
theorem q38 {f:TypeId->PV->PV}:∀ {ts:List TypeId} {xs:List PV},(∀ t x,x∈xs->f t x=x)->rtL f ts xs=xs
 | [],xs,_=>by cases xs <;> rfl
 | t::ts,[],_=>rfl
 | t::ts,x::xs,h=>by
   show f t x::rtL f ts xs=_;rw[h t x zM5,q38 fun t y hy=>h t y (zM3 _ hy)]
omit [Yl] in
theorem q4O {ty:TypeId}(t:Ty)(x:t.sem)(hn:t.nol=true):rt1 P ty (t.pv x)=t.pv x:=by
 unfold Ty.pv
 cases ht:t.one with
 | true=>exact nU (by rw[ht,hn];rfl)
 | false =>
   show PV.agg (rtL (rtC P) (vS P 8 ty) ((t.cells x).map .f))=_;rw[q38]
   ·rfl
   ·intro ty2 y hy;obtain⟨c,hc,rfl⟩:=zNO.1 hy;unfold rtC;rw[tL t x c hn hc];cases Gc.ol ty2 <;> rfl
omit [Yl] in
theorem qYK {f:TypeId->PV->PV}:∀ {ts:List TypeId} {xs rest:List PV},(∀ t x,x∈xs->f t x=x)->rtL f ts (xs++rest)=xs++rtL f (ts.drop xs.length) rest
 | ts,[],rest,_=>by simp
 | [],x::xs,rest,_=>by simp[rtL]
 | t::ts,x::xs,rest,h=>by
   show f t x::rtL f ts (xs++rest)=_;rw[h t x zM5,qYK fun t y hy=>h t y (zM3 _ hy)];rfl
omit [Yl] in
theorem wX (t:Ty)(hn:t.nol=true){tys zFQ:List TypeId}(h:olL tys t=cond t.nol (some (tys.drop t.w)) none)(e:olL tys t=some zFQ)(x:t.sem)(rest:List PV):rtL (rtC P) tys ((t.cells x).map .f++rest)=(t.cells x).map .f++rtL (rtC P) zFQ rest:=by
 have hd:zFQ=tys.drop t.w:=by
  rw[h,hn] at e;cases e;rfl
 rw[qYK,hd,zNA,t.zFJ];intro ty2 y hy;obtain⟨c,hc,rfl⟩:=zNO.1 hy;unfold rtC;rw[tL t x c hn hc];cases Gc.ol ty2 <;> rfl
omit [Yl] in
theorem qVK:∀ (t:Ty) {tys zFQ:List TypeId},olL tys t=some zFQ->∀ (x:t.sem) (rest:List PV),rtL (rtC P) tys ((t.cells x).map .f++rest)=(t.cells x).map .f++rtL (rtC P) zFQ rest
 | .pair a b,tys,zFQ,e,x,rest=>by
   unfold olL at e;split at e
   ·rename_i r hr;show rtL (rtC P) tys ((a.cells x.1++b.cells x.2).map .f++rest)=(a.cells x.1++b.cells x.2).map .f++_;rw[zN6,zNN,qVK a hr,qVK b e,zNN]
   ·cases e
 | .ol el k,tys,zFQ,e,x,rest=>by
   cases tys with
   | nil=>cases e
   | cons ty tys =>
     have e:cond (Gc.ol ty) (some tys) none=some zFQ:=e
     cases ho:Gc.ol ty with
     | false=>rw[ho] at e;cases e
     | true =>
       rw[ho] at e;cases e;show rtC P ty (.f (fvo el k x))::rtL (rtC P) _ rest=.f (fvo el k x)::_;unfold rtC;rw[ho];rfl
 | .int k,tys,zFQ,e,x,rest=>wX (.int k) rfl (by cases tys <;> rfl) e x rest
 | .bool,tys,zFQ,e,x,rest=>wX .bool rfl (by cases tys <;> rfl) e x rest
 | .str,tys,zFQ,e,x,rest=>wX .str rfl (by cases tys <;> rfl) e x rest
 | .raw,tys,zFQ,e,x,rest=>wX .raw rfl (by cases tys <;> rfl) e x rest
 | .nif,tys,zFQ,e,x,rest=>wX .nif rfl (by cases tys <;> rfl) e x rest
 | .fnv g,tys,zFQ,e,x,rest=>wX (.fnv g) rfl (by cases tys <;> rfl) e x rest
 | .list el u,tys,zFQ,e,x,rest=>wX (.list el u) rfl (by cases tys <;> rfl) e x rest
 | .unit,tys,zFQ,e,x,rest=>wX .unit rfl (by cases tys <;> rfl) e x rest
theorem qPG {c:Option TypeId}{ty:TypeId}{t:Ty}{v:SV}{h:SH}{x:t.sem}{h':SH}(ho:OkH P h)(hv:v.ok h)(e:qZJ P c ty t v h=some (x,h')) :
 Keep h h'∧OkH P h'∧(∀ ty2,c=some ty2->uX P ty2 t=true)∧rt1 P ty (t.pv x)=t.pv x∧∀ (Z:Nat->Prop) (H:IH) (m:Nat->Nat) (u:Value),Hp P Z H (own m (qD h.l))->VR P Z H (own m (qD h.l)) v.enc u->∃ Z',Fz P Z H m (qD h.l) Z' (qD h'.l)∧VR P Z' H (fun _=>none) (qHR c t x).enc u:=by
 unfold qZJ at e
 cases c with
 | none =>
   obtain⟨y,a1,a2,a3,a4,a5⟩:=qCL ho hv e;refine⟨a3,a4,fun _ h=>by (cases h),a5,fun Z H m u hp hu=>?_⟩;obtain⟨Z',c1,c2⟩:=qJ2 hp hu a1;refine⟨Z',c1,?_⟩;simp only[qHR,nC];rw[<-a2];exact qE3 c2
 | some ty2 =>
   simp only at e
   cases hlp:zB7 t v with
   | some y =>
     rw[hlp] at e;simp only at e;have hv2:=q2F hlp
     cases hcn:(uX P ty2 t&&(t.nol||(!t.one&&(olL (vS P 8 ty) t).isSome))) with
     | false=>rw[hcn] at e;cases e
     | true =>
       rw[hcn] at e;cases e;obtain⟨hc,hn⟩:uX P ty2 t=true∧(t.nol||(!t.one&&(olL (vS P 8 ty) t).isSome))=true:=by rwa [zMY] at hcn
       refine⟨.refl _,ho,fun _ h=>by cases h;exact hc,?_,fun Z H m u hp hu=>⟨Z,.refl hp,?_⟩⟩
       ·rcases Bool.or_eq_true_iff.1 hn with q | q
        ·exact q4O t _ q
        ·rw[zMY] at q;obtain⟨zFQ,ht⟩:=zN2.1 q.2;have h1:t.one=false:=by simpa using q.1
         unfold Ty.pv;rw[h1];show PV.agg (rtL (rtC P) (vS P 8 ty) ((t.cells _).map .f))=_;have:=qVK (P:=P) t ht x [];rw[zOT] at this;rw[this];cases zFQ <;> simp[rtL]
       ·rw[hv2] at hu;simp only[qHR,SV.enc] at hu ⊢
        cases hu with
        | lp a b c d=>exact .lp a b c d
   | none =>
   rw[hlp] at e;simp only at e
   cases hcn:(uX P ty2 t&&(t.nol||(!t.one&&zBH ty v h))) with
   | false=>rw[hcn] at e;cases e
   | true =>
     rw[hcn] at e;obtain⟨hc,hn⟩:uX P ty2 t=true∧(t.nol||(!t.one&&zBH ty v h))=true:=by rwa [zMY] at hcn
     have hrt:rt1 P ty (t.pv x)=t.pv x:=by
      rcases Bool.or_eq_true_iff.1 hn with q | q
      ·exact q4O t x q
      ·rw[zMY] at q;exact qWP ho e q.2 (by simpa using q.1)
     obtain⟨a1,a2,a3⟩:=qBJ ho e;refine⟨a1,a2,fun _ h=>by cases h;exact hc,hrt,fun Z H m u hp hu=>?_⟩;obtain⟨Z',c1,c2⟩:=a3 Z H m u hp hu;refine⟨Z',c1,?_⟩;simp only[qHR,SV.enc];simpa [q8R] using c2
structure zK8 (P:Program) (cs:List (Option TypeId)) (tys:List TypeId) (ts:List Ty) (vs:List SV) (h:SH) (x:TyL ts) (h':SH):Prop where
 keep:Keep h h'
 ok:OkH P h'
 fz:∀ (Z:Nat->Prop) (H:IH) (m:Nat->Nat) (us:List Value),Hp P Z H (own m (qD h.l))->VRL P Z H (own m (qD h.l)) (qB vs) us->∃ Z',Fz P Z H m (qD h.l) Z' (qD h'.l)∧VRL P Z' H (fun _=>none) (qB (svM cs ts x)) us
 any:∀ (Z:Nat->Prop) (H:IH) (M M':Nat->Option (Nat×PO)) (us:List Value),VRL P Z H M (qB (svM cs ts x)) us->VRL P Z H M' (qB (svM cs ts x)) us
 rt:rtL (rt1 P) tys (pvL ts x)=pvL ts x
 load:∀ (ph:PHp) (rv:List ResultVar) (env:List PV),rv.map qSU=cs->(rv.map fun r=>(zJ env (qYS r)).getD .unk)=qB (svM cs ts x)->qGI P env ph rv=some (pvL ts x)
theorem zBJ {c:Option TypeId}{t:Ty}{x:t.sem}(hc:∀ ty2,c=some ty2->uX P ty2 t=true){ph:PHp}{r:ResultVar}{env:List PV}(h1:qSU r=c)(h2:(zJ env (qYS r)).getD .unk=(qHR c t x).enc):q1Y P env ph r=some (t.pv x):=by
 subst h1
 cases r with
 | tmp i =>
   show some ((zJ env i).getD .unk)=_;rw[show (zJ env i).getD .unk=_ from h2];simp[qSU,qHR,nC]
 | cell a ty =>
   show fH P ty ((zJ env a).getD .unk) ph=_;rw[show (zJ env a).getD .unk=_ from h2];have:=qRW (x:=x) (ph:=ph) (hc ty rfl);simpa [qSU,qHR,SV.enc,q8R] using this
theorem qTX:∀ {cs:List (Option TypeId)} {tys:List TypeId} {ts:List Ty} {vs:List SV} {h:SH} {x:TyL ts} {h':SH},OkH P h->okL h vs->qK3 P cs tys ts vs h=some (x,h')->zK8 P cs tys ts vs h x h'
 | [],tys,[],[],h,x,h',ho,hv,e=>by
   unfold qK3 at e;cases e;refine⟨.refl _,ho,fun Z H m us hp hu=>⟨Z,.refl hp,?_⟩,fun Z H M M' us hu=>?_,(by cases tys <;> rfl),fun ph rv env h1 h2=>?_⟩
   ·simp only[qB] at hu;rw[hu.zFF];simp only[svM,qB];exact .nil
   ·simp only[svM,qB] at hu ⊢;rw[hu.zFF];exact .nil
   ·cases rv with
    | nil=>rfl
    | cons _ _=>cases h1
 | c::cs,ty::tys,[t],v::vs,h,x,h',ho,hv,e=>by
   unfold qK3 at e;split at e
   case h_2=>cases e
   simp only[okL] at hv;obtain⟨a1,a2,a3,ar,a4⟩:=qPG ho hv.1 e;refine⟨a1,a2,fun Z H m us hp hu=>?_,fun Z H M M' us hu=>?_,?_,fun ph rv env h1 h2=>?_⟩
   ·simp only[qB] at hu;obtain⟨u,us',rfl,b1,b2⟩:=hu.zFD;obtain⟨Z',c1,c2⟩:=a4 Z H m u hp b1;rw[b2.zFF];simp only[svM,qB];exact⟨Z',c1,.cons c2 .nil⟩
   ·simp only[svM,qB] at hu ⊢;obtain⟨u,us',rfl,b1,b2⟩:=hu.zFD;rw[b2.zFF];exact .cons (qN8 c t x _ _ _ _ _ b1) .nil
   ·show rt1 P ty (t.pv x)::rtL (rt1 P) tys []=[t.pv x];rw[ar];cases tys <;> rfl
   ·match rv,h1,h2 with
    | [r],h1,h2 =>
      simp only[zNH,zO7,zNW,and_true] at h1;simp only[zNH,zO7,svM,qB,zNW,and_true] at h2;unfold qGI;rw[zBJ a3 h1 h2];rfl
 | c::cs,ty::tys,t::u::ts,v::vs,h,x,h',ho,hv,e=>by
   unfold qK3 at e;simp only[okL] at hv;split at e
   case h_2=>cases e
   rename_i x1 h1 hd;split at e
   case h_2=>cases e
   rename_i y h2 hd2;cases e;obtain⟨a1,a2,a3,ar,a4⟩:=qPG ho hv.1 hd;have ih:=qTX a2 (qI a1 hv.2) hd2;have hsv:svM (c::cs) (t::u::ts) (x1,y)=qHR c t x1::svM cs (u::ts) y:=rfl;refine⟨a1.trans ih.keep,ih.ok,fun Z H m us hp hu=>?_,fun Z H M M' us hu=>?_,?_,fun ph rv env g1 g2=>?_⟩
   ·simp only[qB] at hu;obtain⟨w,us',rfl,b1,b2⟩:=hu.zFD;obtain⟨Z1,d1,d2⟩:=a4 Z H m w hp b1;obtain⟨Z2,f1,f2⟩:=ih.fz Z1 H m us' d1.hp (d1.vrl b2);rw[hsv];simp only[qB];exact⟨Z2,d1.trans f1,.cons (d2.mono (p:=fun _=>false) f1.zle (zM0 _) (fun _ _ _=>rfl) (.refl _ _) fun j hj=>by cases hj) f2⟩
   ·rw[hsv] at hu ⊢;simp only[qB] at hu ⊢;obtain⟨w,us',rfl,b1,b2⟩:=hu.zFD;exact .cons (qN8 c t x1 _ _ _ _ _ b1) (ih.any _ _ _ _ _ b2)
   ·show rt1 P ty (t.pv x1)::rtL (rt1 P) tys (pvL (u::ts) y)=t.pv x1::pvL (u::ts) y;rw[ar,ih.rt]
   ·cases rv with
    | nil=>cases g1
    | cons r rv =>
      rw[hsv] at g2;simp only[zNH,zNW] at g1;simp only[zNH,qB,zNW] at g2;unfold qGI;rw[zBJ a3 g1.1 g2.1,ih.load ph rv env g1.2 g2.2];rfl
 | [],_,[],_::_,_,_,_,_,_,e=>by unfold qK3 at e;cases e
 | [],[],[_],_,_,_,_,_,_,e=>by unfold qK3 at e;cases e
 | [],[],_::_::_,_,_,_,_,_,_,e=>by unfold qK3 at e;cases e
 | [],_::_,[_],_,_,_,_,_,_,e=>by unfold qK3 at e;cases e
 | [],_::_,_::_::_,_,_,_,_,_,_,e=>by unfold qK3 at e;cases e
 | _::_,[],[],_,_,_,_,_,_,e=>by unfold qK3 at e;cases e
 | _::_,_::_,[],_,_,_,_,_,_,e=>by unfold qK3 at e;cases e
 | _::_,[],[_],_,_,_,_,_,_,e=>by unfold qK3 at e;cases e
 | _::_,[],_::_::_,_,_,_,_,_,_,e=>by unfold qK3 at e;cases e
 | _::_,_::_,[_],[],_,_,_,_,_,e=>by unfold qK3 at e;cases e
 | _::_,_::_,_::_::_,[],_,_,_,_,_,e=>by unfold qK3 at e;cases e
def rdR (P:Program)(hb:SH)(zHE:List TypeId)(rs:List Ty)(rv:List ResultVar)(env:List SV)(h:SH):Option (TyL rs):=match qFN (rv.map qYS) env with
 | some vs=>(match qK3 P (rv.map qSU) zHE rs vs h with
   | some p=>cond (dW [] hb p.2) (some p.1) none
   | none=>none)
 | none=>none
def enR (N:Nat)(rv:List ResultVar)(rs:List Ty)(v:TyL rs):List SV:=(dG (rv.map qYS) (svM (rv.map qSU) rs v) (List.replicate N .unk)).1
omit [Yl] in
theorem qJ7 (h:SH):∀ (n:Nat),okL h (List.replicate n .unk)
 | 0=>by simp[okL]
 | n+1=>by rw[zOV];simp only[okL];exact⟨by simp[SV.ok],qJ7 h n⟩
theorem qA0:∀ (n:Nat),qB (List.replicate n .unk)=List.replicate n .unk
 | 0=>by simp[qB]
 | n+1=>by rw[zOV,zOV];simp only[qB,qA0 n,SV.enc]
theorem qP0 {Z:Nat->Prop}{H:IH}{M:Nat->Option (Nat×PO)}{vals:List Value}:∀ {rl:List Nat} {l base:List SV} {ws:List Value},(∀ (j i:Nat),rl[j]?=some i->vals[i]?=ws[j]?)->VRL P Z H M (qB l) ws->VRL P Z H M (qB base) vals->VRL P Z H M (qB (dG rl l base).1) vals
 | [],l,base,ws,_,_,hb=>hb
 | i::is,[],base,ws,_,_,hb=>hb
 | i::is,c::l,base,ws,hc,hl,hb=>by
   simp only[qB] at hl;obtain⟨w,ws',rfl,h1,h2⟩:=hl.zFD;show VRL P Z H M (qB (dG is l (yQ base i c)).1) vals;refine qP0 (ws:=ws') (fun j k hj=>by simpa using hc (j+1) k (by simpa using hj)) h2 ?_;rw[xW];exact hb.slot (v:=w) (by simpa using hc 0 i rfl) h1
theorem qN0 {Z:Nat->Prop}{H:IH}{M:Nat->Option (Nat×PO)}{env:List SV}{vals:List Value}(hv:VRL P Z H M (qB env) vals):∀ {rl:List Nat} {vs:List SV},qFN rl env=some vs->∃ ws,VRL P Z H M (qB vs) ws∧∀ (j i:Nat),rl[j]?=some i->vals[i]?=ws[j]?
 | [],vs,e=>by cases e;exact⟨[],by simp only[qB];exact .nil,fun j i h=>by simp at h⟩
 | i::is,vs,e=>by
   unfold qFN at e;split at e
   ·rename_i v l hx hl;cases e;obtain⟨ws,h1,h2⟩:=qN0 hv hl;have hx2:(qB env)[i]?=some v.enc:=by rw[<-qG,qU,hx];rfl
    obtain⟨w,hw,hr⟩:=hv.get hx2;refine⟨w::ws,by simp only[qB];exact .cons hr h1,fun j k hj=>?_⟩
    cases j with
    | zero=>simp at hj;subst hj;simpa using hw
    | succ j=>simpa using h2 j k (by simpa using hj)
   ·cases e
omit [Yl] in
theorem q7O {Z:Nat->Prop}{H:IH}{M:Nat->Option (Nat×PO)}{vals:List Value}:VRL P Z H M (List.replicate vals.length .unk) vals:=⟨by simp,fun i z v h1 h2=>by
 rw[zP9] at h1;split at h1
 ·cases h1;exact .unk
 ·cases h1⟩
omit [Yl] in
theorem qHD {env:List SV}:∀ {rl:List Nat} {vs:List SV},qFN rl env=some vs->∀ z∈vs,z∈env
 | [],vs,e,z,hz=>by cases e;cases hz
 | i::is,vs,e,z,hz=>by
   unfold qFN at e;split at e
   ·rename_i v l hx hl;cases e;rcases zNF.1 hz with q | q
    ·subst q;rw[qG] at hx;exact zN5 hx
    ·exact qHD hl z q
   ·cases e
theorem qMD {hb:SH}{zHE:List TypeId}{rs:List Ty}{rv:List ResultVar}{env:List SV}{h:SH}{v:TyL rs}(ho:OkH P h)(he:okL h env)(e:rdR P hb zHE rs rv env h=some v) :
 ∃ vs h',qFN (rv.map qYS) env=some vs∧zK8 P (rv.map qSU) zHE rs vs h v h'∧dW [] hb h'=true:=by
 unfold rdR at e;split at e
 case h_2=>cases e
 rename_i vs hvs;split at e
 case h_2=>cases e
 rename_i p hp;obtain⟨x,h'⟩:=p
 cases hc:dW [] hb h' with
 | false=>rw[hc] at e;cases e
 | true =>
   rw[hc] at e;cases e;exact⟨vs,h',hvs,qTX ho (zK.2 fun z hz=>zK.1 he z (qHD hvs z hz)) hp,hc⟩
theorem qVT {hb:SH}(hob:OkH P hb){zHE:List TypeId}{rs:List Ty}{rv:List ResultVar}:zH9 P nm N hb (rdR P hb zHE rs rv) (enR N rv rs):=by
 refine⟨hob,fun env h v ho he hl hbh e=>?_,fun env h v ho he hbh e k o hk=>?_,fun v=>by unfold enR;rw[qHH,zPU],fun v h=>qLQ (qSZ _ rs v) (qJ7 h N)⟩
 ·obtain⟨vs,h',hvs,hd,hkp⟩:=qMD ho he e;intro Z H m vals hh hv;obtain⟨ws,h1,h2⟩:=qN0 hv hvs;obtain⟨Z',c1,r2⟩:=hd.fz Z H m ws hh h1;have hdr:=Fz.drop c1.hp (ph':=qD hb.l) (qAT fun k o hk=>oK hob (hbh.trans hd.keep) hkp (by simp) hk);have hlen:vals.length=N:=by rw[<-hv.len,qP,hl]
  refine⟨Z',m,hdr.hp,?_,c1.step.trans hdr.step,(c1.kr _).trans (hdr.kr _)⟩;unfold enR;refine qP0 h2 (hd.any _ _ _ _ _ r2) ?_;rw[qA0,<-hlen];exact q7O
 ·obtain⟨vs,h',hvs,hd,hkp⟩:=qMD ho he e;have:=qOU hob (hbh.trans hd.keep) hkp (by simp) hk;exact hd.keep.same k o this (zM4 (hob.ver k o hk) hbh.next)
omit [Yl] in
theorem zBB (t:Ty)(x:t.sem)(ph:PHp):fzP P ph (t.pv x)=some (t.pv x,ph):=by
 unfold Ty.pv
 cases t.one with
 | true=>rfl
 | false=>simp only[cond_false,fzP,tN]
omit [Yl] in
theorem q3S {ph:PHp}:∀ {xs:List PV},(∀ y∈xs,fzP P ph y=some (y,ph))->fzA P xs ph=some (xs,ph)
 | [],_=>rfl
 | x::xs,h=>by
   simp only[fzA,h x zM5,q3S fun y hy=>h y (zM3 _ hy)]
omit [Yl] in
theorem q6X (rs:List Ty)(x:TyL rs)(ph:PHp):fzR P ph (kY rs x)=some (kY rs x):=by
 have hm:∀ y∈pvL rs x,∃ (t:Ty) (z:t.sem),y=t.pv z:=fun y hy=>qBD hy
 unfold kY;generalize pvL rs x=l at hm
 have hz:∀ y∈l,fzP P ph y=some (y,ph):=fun y hy=>by
  obtain⟨t,z,rfl⟩:=hm y hy;exact zBB t z ph
 match l,hm,hz with
 | [],_,hz=>rfl
 | [v],hm,hz =>
   obtain⟨t,z,rfl⟩:=hm v zM5;have:=hz _ zM5;show fzR P ph (t.pv z)=some (t.pv z);unfold fzR;unfold Ty.pv at this ⊢
   cases ht:t.one with
   | true=>rw[ht] at this;simp only[cond_true] at this ⊢;rw[this]
   | false=>rw[ht] at this;simp only[cond_false] at this ⊢;rw[this]
 | a::b::l,_,hz =>
   show (match fzA P (a::b::l) ph with
    | some (ys,_)=>some (PV.tup ys)
    | none=>none)=_
   rw[q3S hz];rfl
omit [Yl] in
theorem qNB (rs:List Ty)(x:TyL rs):q5P (kY rs x)=true:=by
 have hm:∀ y∈pvL rs x,qHU y=true:=fun y hy=>by
  obtain⟨t,z,rfl⟩:=qBD hy;exact qU7 t z
 have hm2:∀ y∈pvL rs x,∃ (t:Ty) (z:t.sem),y=t.pv z:=fun y hy=>qBD hy
 unfold kY;generalize pvL rs x=l at hm hm2
 match l,hm,hm2 with
 | [],_,_=>rfl
 | [v],hm,hm2 =>
   have h1:=hm v zM5;obtain⟨t,z,rfl⟩:=hm2 v zM5;show q5P (t.pv z)=true;unfold Ty.pv at h1 ⊢
   cases ht:t.one with
   | true=>rfl
   | false=>rw[ht] at h1;exact h1
 | a::b::l,hm,_=>exact zM1.2 hm
def qN6:List Nat->Bool
 | []=>true
 | i::l=>!oW i l&&qN6 l
omit [Yl] in
theorem qOG:∀ {rl:List Nat} {l base:List SV},qN6 rl=true->rl.length=l.length->(∀ i∈rl,i < base.length)->∀ (j i:Nat),rl[j]?=some i->zJ (dG rl l base).1 i=l[j]?
 | [],l,base,_,_,_,j,i,h=>by simp at h
 | k::is,[],base,_,hl,_,j,i,h=>by simp at hl
 | k::is,c::l,base,hn,hl,hb,j,i,h=>by
   unfold qN6 at hn;rw[zMY] at hn
   have hk:k ∉ is:=fun hm=>by
    have:=xH.2 hm;rw[this] at hn;exact absurd hn.1 (by simp)
   show zJ (dG is l (yQ base k c)).1 i=_
   cases j with
   | zero =>
     simp at h;subst h;rw[qGJ hk,qV,qG,zNU,if_pos rfl,if_pos (hb k zM5)];rfl
   | succ j =>
     have h2:is[j]?=some i:=by simpa using h
     rw[qOG (rl:=is) (l:=l) hn.2 (by simpa using hl) (fun i hi=>by rw[jH];exact hb i (zM3 _ hi)) j i h2];rfl
def zEJ {rs:List Ty}(rdv:List SV->SH->Option (TyL rs)):vQ none (TyL rs):=fun e _ env h=>match e with
 | .normal=>rdv env h
 | .ret=>rdv env h
 | _=>none
def nm0:Nm:=⟨0,fun _=>true⟩
def fnS (P:Program)(G:Nat->Bool)(T:yY)(IT:List (FuncId×zFV))(CI:CIT)(an:An)(as rs:List Ty)(fn:Func)(x:TyL as):Option (TyL rs):=match fn.body with
 | some c=>(ev (Γ:=none) P G T IT CI yi0 an (rdR P ⟨0,[]⟩ fn.resultTypes.toList rs fn.results.toList) (enR fn.ntmps fn.results.toList rs) ⟨0,[]⟩ c false nm0 () (svL as x++List.replicate (fn.ntmps - as.length) .unk) ⟨0,[]⟩ (zEJ (rdR P ⟨0,[]⟩ fn.resultTypes.toList rs fn.results.toList))).run
 | none=>none
def qRU (as rs:List Ty)(fn:Func):Bool:=match fn.body with
 | some _=>qN6 (fn.results.toList.map qYS)&&(Nat.beq fn.results.toList.length rs.length&&(Nat.ble as.length fn.ntmps&&(fn.results.toList.map qYS).all fun i=>Nat.blt i fn.ntmps))
 | none=>false
omit [Yl] in
theorem Runs.zK9 {rd:Bool}{c:Code}{env:List PV}{ph:PHp}{Q:PQ}(h:Runs P G rd nm c env ph fun e pe p=>∃ pe' p',Wk P nm pe p pe' p'∧Q e pe' p'):Runs P G rd nm c env ph Q:=by
 intro Z H m zFA hp hb he;refine (h Z H m zFA hp hb he).mono ?_;rintro o ⟨Z',m',env',ph',a,b,c,d,pe',p',hw,e⟩;obtain⟨Z1,m1,a1,a2,a3,a4⟩:=hw Z' o.H m' o.env a b;exact⟨Z1,m1,pe',p',a1,a2,c.trans a3,d.trans a4,e⟩
theorem zDF:YOk P G (Γ:=GV none) zAI yi0:=fun g y g' b h=>by cases h
theorem zBD [zFW P G]{nat:xA}{T:yY}{IT:List (FuncId×zFV)}{CI:CIT}{an:An}{as rs:List Ty}{g:FuncId}{fn:Func}(s:zF2 P good nat G tab)(ht:qRC tab T)(hit:q6B P G IT)(hci:qYZ P G CI)(hfn:P.funcs[g]?=some fn)(hc:qRU as rs fn=true) :
 zEK P G g nm0 (enL as) (fnS P G T IT CI an as rs fn) (kY rs):=by
 unfold qRU at hc;split at hc
 case h_2=>cases hc
 rename_i c hbody;simp only[zMY] at hc;obtain⟨c1,c2,c3,c4⟩:=hc;refine⟨fn,c,hfn,hbody,fun x y hF=>⟨fn.ntmps,rfl,?_⟩⟩;unfold fnS at hF;rw[hbody] at hF;have hF:(ev (Γ:=none) P G T IT CI yi0 an (rdR P ⟨0,[]⟩ fn.resultTypes.toList rs fn.results.toList) (enR fn.ntmps fn.results.toList rs) ⟨0,[]⟩ c false nm0 () (svL as x++List.replicate (fn.ntmps - as.length) .unk) ⟨0,[]⟩ (zEJ (rdR P ⟨0,[]⟩ fn.resultTypes.toList rs fn.results.toList))).run=some y:=hF;have hal:as.length<=fn.ntmps:=zM9 c3
 have hlen:(svL as x++List.replicate (fn.ntmps - as.length) SV.unk).length=fn.ntmps:=by
  rw[zNK,qE5,zPU];omega
 have hrd:∀ nm,zH9 P nm fn.ntmps ⟨0,[]⟩ (rdR P ⟨0,[]⟩ fn.resultTypes.toList rs fn.results.toList) (enR fn.ntmps fn.results.toList rs):=fun nm=>qVT qE9
 have zFI:(enL as).p x++List.replicate (fn.ntmps - ((enL as).p x).length) PV.unk=qB (svL as x++List.replicate (fn.ntmps - as.length) .unk):=by
  have:(enL as).p x=qB (svL as x):=(qCM as x).symm;rw[mX,qA0,this,qP,qE5]
 rw[zFI];have hrun:=qQ.runs (q77 (Γ:=none) (wd:=zAI) s ht hit hci zDF hrd c qE9 (aT (qB3 as x) (qJ7 _ _)) hlen (.refl _) hF);refine Runs.zK9 (hrun.mono ?_);rintro e pe ph ⟨env',h',rfl,rfl,k1,k2,k3,k0,k4,k5⟩
 obtain⟨he,hr⟩:(e=.normal∨e=.ret)∧rdR P ⟨0,[]⟩ fn.resultTypes.toList rs fn.results.toList env' h'=some y:=by
  cases e with
  | normal=>exact⟨.inl rfl,k5⟩
  | ret=>exact⟨.inr rfl,k5⟩
  | exit _=>cases k5
  | goto _=>cases k5
 obtain⟨_,_,_,hd,_⟩:=qMD k2 k1 hr;refine⟨_,_,(hrd nm0).wk _ _ _ k2 k1 k3 k0 hr,he,kY rs y,?_,q6X rs y _⟩;unfold vX;have hll:(fn.results.toList.map qYS).length=(svM (fn.results.toList.map qSU) rs y).length:=by rw[qM5,zNA];exact zMZ c2
 have hl2:(fn.results.toList.map fun r=>(zJ (qB (enR fn.ntmps fn.results.toList rs y)) (qYS r)).getD PV.unk)=qB (svM (fn.results.toList.map qSU) rs y):=by
  apply zOI;intro j;rw[zNC,zD (svM _ rs y),zNC]
  cases hj:fn.results.toList[j]? with
  | none =>
    have:(svM (fn.results.toList.map qSU) rs y)[j]?=none:=by
     rw[zPZ] at hj ⊢;rw[zNA] at hll;omega
    rw[this];rfl
  | some rr =>
    have hg:=qOG (l:=svM (fn.results.toList.map qSU) rs y) (base:=List.replicate fn.ntmps .unk) c1 hll (fun i hi=>by
     have:=zM1.1 c4 i hi;rw[zPU]
     exact zM9 this) j (qYS rr) (by rw[zNC,hj];rfl)
    simp only[zNE];rw[qU];unfold enR;rw[hg]
    have hlt:j < (svM (fn.results.toList.map qSU) rs y).length:=by
     rw[<-hll,zNA];exact (zM6.1 hj).1
    rw[zM2 hlt];rfl
 rw[hd.load _ fn.results.toList _ rfl hl2];show some (qDC (rtL (rt1 P) fn.resultTypes.toList (pvL rs y)))=some (kY rs y);rw[hd.rt];rfl
end
end Go.Sv
namespace Go.Sv
open Go.Idl
variable {P:Program}
def zD9 (s:ByteArray)(c:Int):Int:=s.foldl (fun n x=>if x==c.toNat.toUInt8 then n+1 else n) ((0:Nat):Int)
def zDU (s:ByteArray)(c:Int):Int:=match (List.range s.size).find? (fun i=>s[i]! == c.toNat.toUInt8) with
 | some i=>(i:Int)
 | none=>-1
def q35 (x y c:Int):Int:=Int.ofNat ((x.toNat+y.toNat+c.toNat) % 18446744073709551616)
def q4F (x y c:Int):Int:=Int.ofNat ((x.toNat+y.toNat+c.toNat) / 18446744073709551616)
def qX4 (x y c:Int):Int:=Int.ofNat ((x.toNat+18446744073709551616 - y.toNat - c.toNat) % 18446744073709551616)
def qUK (x y c:Int):Int:=Int.ofNat (cond (Nat.blt x.toNat (y.toNat+c.toNat)) 1 0)
def zEP (fn:Func):Nat:=cond (fn.body.isNone&&fn.origin == "") (cond (fn.name == "internal/bytealg.CountString") 1 (cond (fn.name == "internal/bytealg.IndexByteString") 2 (cond (fn.name == "math/bits.Add64") 3 (cond (fn.name == "math/bits.Sub64") 4 0)))) 0
def q74 (P:Program)(g:FuncId):Nat:=match P.funcs[g]? with
 | some fn=>zEP fn
 | none=>0
theorem qG7 {P:Program}{g:FuncId}{n:Nat}(h:q74 P g=n+1):∃ fn,P.funcs[g]?=some fn∧fn.body=none∧fn.origin = "" ∧ qNH P g=true∧((n=0∧fn.name = "internal/bytealg.CountString")∨(n=1∧fn.name = "internal/bytealg.IndexByteString")∨(n=2∧fn.name = "math/bits.Add64")∨(n=3∧fn.name = "math/bits.Sub64")):=by
 unfold q74 at h;split at h
 case h_2=>cases h
 rename_i fn hfn;unfold zEP at h
 cases hc:(fn.body.isNone&&fn.origin == "") with
 | false=>rw[hc] at h;cases h
 | true =>
   rw[hc] at h;simp only[cond_true] at h;rw[zMY] at hc
   have ho:fn.origin = "" := by simpa using hc.2
   have hb:fn.body=none:=by simpa using hc.1
   have hx:∀ s,fn.name=s->(s == "internal/abi.NoEscape")=false->qNH P g=true:=fun s hs h0=>by
    unfold qNH;rw[hfn];simp only;rw[hc.1,hs,h0];rfl
   refine⟨fn,hfn,hb,ho,?_⟩
   cases h1:(fn.name == "internal/bytealg.CountString") with
   | true =>
     rw[h1] at h
     have h1:fn.name = "internal/bytealg.CountString" := by simpa using h1
     have h:1=n+1:=h;exact⟨hx _ h1 (by decide),.inl ⟨by omega,h1⟩⟩
   | false =>
     rw[h1] at h
     cases h2:(fn.name == "internal/bytealg.IndexByteString") with
     | true =>
       rw[h2] at h
       have h2:fn.name = "internal/bytealg.IndexByteString" := by simpa using h2
       have h:2=n+1:=h;exact⟨hx _ h2 (by decide),.inr (.inl ⟨by omega,h2⟩)⟩
     | false =>
       rw[h2] at h
       cases h3:(fn.name == "math/bits.Add64") with
       | true =>
         rw[h3] at h
         have h3:fn.name = "math/bits.Add64" := by simpa using h3
         have h:3=n+1:=h;exact⟨hx _ h3 (by decide),.inr (.inr (.inl ⟨by omega,h3⟩))⟩
       | false =>
         rw[h3] at h
         cases h4:(fn.name == "math/bits.Sub64") with
         | true =>
           rw[h4] at h
           have h4:fn.name = "math/bits.Sub64" := by simpa using h4
           have h:4=n+1:=h;exact⟨hx _ h4 (by decide),.inr (.inr (.inr ⟨by omega,h4⟩))⟩
         | false=>rw[h4] at h;cases h
theorem dX {α β:Type}(s:Sem α)(g:α->Sem β):yB P (s >>= g)=(yB P s).bind fun a=>yB P (g a):=xY g s
theorem zC3:yB P program=some P:=rfl
theorem zCO {q:Mark}:yB P (mark q)=some ():=rfl
theorem sV {g:FuncId}{fn:Func}{e:Array Value->Sem Value}{vs:Array Value}{v:Value}(hfn:P.funcs[g]?=some fn)(hb:fn.body=none)(hn:(fn.name == "runtime.NumGoroutine")=false)(h1:Extern.findNext fn=none)(h2:Extern.find fn=some e)(h3:yB P (e vs)=some v) :
 yB P (callFunc g vs)=some (.value v):=by
 unfold callFunc;rw[dX,zC3,zNI,hfn];simp only[hn,zOY,if_false,hb,Option.isNone_none,if_true,h1,h2];rw[dX,zCO,zNI];show yB P (do pure (Next.value (<- e vs)))=_;rw[dX,h3];rfl
theorem qQX {fn:Func}(h:fn.name = "internal/bytealg.CountString")(ho:fn.origin = ""):Extern.findNext fn=none∧Extern.find fn=some Extern.BytealgCount.count:=by
 unfold Extern.findNext Extern.find;simp only[h,ho];exact⟨by kernel_rfl,by kernel_rfl⟩
theorem find_index {fn:Func}(h:fn.name = "internal/bytealg.IndexByteString")(ho:fn.origin = ""):Extern.findNext fn=none∧Extern.find fn=some Extern.BytealgIndexByte.indexByte:=by
 unfold Extern.findNext Extern.find;simp only[h,ho];exact⟨by kernel_rfl,by kernel_rfl⟩
theorem qTY {g:FuncId}{s:ByteArray}{c:Int}(h:q74 P g=1):qNH P g=true∧yB P (callFunc g #[.string s,.int .u8 c])=some (.value (.int .i64 (zD9 s c))):=by
 obtain⟨fn,h1,h2,h3,h4,h5⟩:=qG7 (n:=0) h
 rcases h5 with ⟨_,h5⟩ | ⟨h6,_⟩ | ⟨h6,_⟩ | ⟨h6,_⟩
 ·obtain⟨a,b⟩:=qQX h5 h3;refine⟨h4,sV h1 h2 (by rw[h5];decide) a b ?_⟩;show yB P (do let b <- Extern.Bytes.bytesOf (.string s);let c <- Extern.Bytes.asByte (.int .u8 c);pure (goInt (b.foldl (fun n x=>if x==c then n+1 else n) (0:Nat))))=_;rw[dX,show yB P (Extern.Bytes.bytesOf (.string s))=some s from rfl,zNI,dX,show yB P (Extern.Bytes.asByte (.int .u8 c))=some c.toNat.toUInt8 from rfl,zNI];rfl
 all_goals cases h6
theorem qTP {g:FuncId}{s:ByteArray}{c:Int}(h:q74 P g=2):qNH P g=true∧yB P (callFunc g #[.string s,.int .u8 c])=some (.value (.int .i64 (zDU s c))):=by
 obtain⟨fn,h1,h2,h3,h4,h5⟩:=qG7 (n:=1) h
 rcases h5 with ⟨h6,_⟩ | ⟨_,h5⟩ | ⟨h6,_⟩ | ⟨h6,_⟩
 ·cases h6
 rotate_left
 ·cases h6
 ·cases h6
 ·obtain⟨a,b⟩:=find_index h5 h3;refine⟨h4,sV h1 h2 (by rw[h5];decide) a b ?_⟩
  show yB P (match (List.range s.size).find? (fun i=>s[i]! == c.toNat.toUInt8) with
   | some i=>pure (goInt i)
   | none=>pure (goInt (-1)))=_
  unfold zDU;cases (List.range s.size).find? (fun i=>s[i]! == c.toNat.toUInt8) <;> rfl
def zD4:Array Value->Sem Value:=fun args=>do
 let (x,y,c) <- Extern.MathBitsCarry.three "Add64" args
 pure (Extern.MathBitsCarry.pair ((x+y+c) % Extern.MathBitsCarry.m64) ((x+y+c) / Extern.MathBitsCarry.m64))
def zD7:Array Value->Sem Value:=fun args=>do
 let (x,y,b) <- Extern.MathBitsCarry.three "Sub64" args
 pure (Extern.MathBitsCarry.pair ((x+Extern.MathBitsCarry.m64 - y - b) % Extern.MathBitsCarry.m64) (if x < y+b then 1 else 0))
theorem q0Q {fn:Func}(h:fn.name = "math/bits.Add64")(ho:fn.origin = ""):Extern.findNext fn=none∧Extern.find fn=some zD4:=by
 unfold Extern.findNext Extern.find;simp only[h,ho];exact⟨by kernel_rfl,by kernel_rfl⟩
theorem qZ9 {fn:Func}(h:fn.name = "math/bits.Sub64")(ho:fn.origin = ""):Extern.findNext fn=none∧Extern.find fn=some zD7:=by
 unfold Extern.findNext Extern.find;simp only[h,ho];exact⟨by kernel_rfl,by kernel_rfl⟩
theorem qQT {n:String}{x y:Int}:∀ {c:Int},Nat.ble c.toNat 1=true->yB P (Extern.MathBitsCarry.three n #[.int .u64 x,.int .u64 y,.int .u64 c])=some (x.toNat,y.toNat,c.toNat)
 | .ofNat 0,_=>rfl
 | .ofNat 1,_=>rfl
 | .ofNat (n+2),h=>by
   have:=zM9 h;simp at this;omega
 | .negSucc m,_=>rfl
theorem q5X {g:FuncId}{x y c:Int}(h:q74 P g=3)(hc:Nat.ble c.toNat 1=true):qNH P g=true∧yB P (callFunc g #[.int .u64 x,.int .u64 y,.int .u64 c])=some (.value (.tuple #[.int .u64 (q35 x y c),.int .u64 (q4F x y c)])):=by
 obtain⟨fn,h1,h2,h3,h4,h5⟩:=qG7 (n:=2) h
 rcases h5 with ⟨h6,_⟩ | ⟨h6,_⟩ | ⟨_,h5⟩ | ⟨h6,_⟩
 ·cases h6
 ·cases h6
 ·obtain⟨a,b⟩:=q0Q h5 h3;refine⟨h4,sV h1 h2 (by rw[h5];decide) a b ?_⟩;unfold zD4;rw[dX,qQT hc];rfl
 ·cases h6
theorem q7Y {g:FuncId}{x y c:Int}(h:q74 P g=4)(hc:Nat.ble c.toNat 1=true):qNH P g=true∧yB P (callFunc g #[.int .u64 x,.int .u64 y,.int .u64 c])=some (.value (.tuple #[.int .u64 (qX4 x y c),.int .u64 (qUK x y c)])):=by
 obtain⟨fn,h1,h2,h3,h4,h5⟩:=qG7 (n:=3) h
 rcases h5 with ⟨h6,_⟩ | ⟨h6,_⟩ | ⟨h6,_⟩ | ⟨_,h5⟩
 ·cases h6
 ·cases h6
 ·cases h6
 ·obtain⟨a,b⟩:=qZ9 h5 h3;refine⟨h4,sV h1 h2 (by rw[h5];decide) a b ?_⟩;unfold zD7;rw[dX,qQT hc];simp only[zNI];show some (Extern.MathBitsCarry.pair ((x.toNat+18446744073709551616 - y.toNat - c.toNat) % 18446744073709551616) (if x.toNat < y.toNat+c.toNat then 1 else 0))=_;unfold qX4 qUK Extern.MathBitsCarry.pair;by_cases hlt:x.toNat < y.toNat+c.toNat
  ·rw[if_pos hlt,show Nat.blt x.toNat (y.toNat+c.toNat)=true from zNL hlt];rfl
  ·rw[if_neg hlt,show Nat.blt x.toNat (y.toNat+c.toNat)=false from zRI.2 fun h=>hlt (zM9 h)];rfl
noncomputable section
variable [Gc]
class Hnd where
 ci:CIT
class zF9 (P:Program) (G:Nat->Bool) [Hnd]:Prop where
 ok:∀ [Yl],qYZ P G Hnd.ci
instance (priority:=low) zKE:Hnd:=⟨fun _ _ _ _ _ _=>.fail⟩
instance (priority:=low) hndOk0 {G:Nat->Bool}:@zF9 _ P G zKE:=by
 letI:Hnd:=zKE
 refine⟨fun {_}=>?_⟩;intro R nm f as h K r ho ha e;cases e
variable [Yl]{R:Type}{r:R}{G:Nat->Bool}
def zCE (P:Program)(f:FuncId)(as:List SV)(h:SH)(K:SV->SH->zE9 R)(F:zE9 R):zE9 R:=match q74 P f,as with
 | 1,[x,y]=>(match asS x,asI y with
   | some s,some (.u8,c)=>K (.d (.int .i64) (zD9 s c)) h
   | _,_=>.fail)
 | 2,[x,y]=>(match asS x,asI y with
   | some s,some (.u8,c)=>K (.d (.int .i64) (zDU s c)) h
   | _,_=>.fail)
 | 3,[x,y,z]=>(match asI x,asI y,asI z with
   | some (.u64,a),some (.u64,b),some (.u64,c)=>.ite (Nat.ble c.toNat 1) (K (.tup [.d (.int .u64) (q35 a b c),.d (.int .u64) (q4F a b c)]) h) .fail
   | _,_,_=>.fail)
 | 4,[x,y,z]=>(match asI x,asI y,asI z with
   | some (.u64,a),some (.u64,b),some (.u64,c)=>.ite (Nat.ble c.toNat 1) (K (.tup [.d (.int .u64) (qX4 a b c),.d (.int .u64) (qUK a b c)]) h) .fail
   | _,_,_=>.fail)
 | _,_=>F
end
end Go.Sv
namespace Go.Sv
open Go.Idl
noncomputable section
variable [Gc]
variable [Frs]
variable [Yl]
variable {P:Program}{G:Nat->Bool}{nm:Nm}{tab:uQ}{nat:xA}{good:FuncId->Bool}{T:yY}{IT:List (FuncId×zFV)}
omit [Yl] in
theorem qY5 {g:FuncId}{fn:Func}{c:Code}{N:Nat}{args:List PV}{ph:PHp}{R:PV->PHp->Prop}(hent:enters P g=true)(hfn:P.funcs[g]?=some fn)(hb:fn.body=some c)(hN:fn.ntmps=N)
 (h:Runs P G false nm c (args++List.replicate (N - args.length) .unk) ph fun e pe p=>(e=.normal∨e=.ret)∧∃ v,vX P fn pe p=some v∧R v p) :
 qDE P G nm g args ph R:=by
 refine .inr ⟨hent,fun Z H m zFN hp hbs hv=>?_⟩;refine gP.of hfn hb hN ?_
 have zFI:VRL P Z H (own m ph) (args++List.replicate (N - args.length) .unk) (zFN++List.replicate (N - zFN.length) undef):=by
  rw[hv.len];refine VRL.append hv ⟨by simp,fun i z v h1 h2=>?_⟩;rw[zP9] at h1;split at h1
  ·cases h1;exact .unk
  ·cases h1
 refine (h Z H m _ hp hbs zFI).mono ?_;rintro o ⟨Z',m',env',ph',a1,b1,c1,d1,he,v,hr,hR⟩;refine⟨he,?_⟩;obtain⟨u,v1,v2⟩:=mK a1 b1 hr;exact⟨u,v1,Z',m',v,ph',a1,v2,c1,d1,hR⟩
def rtS (P:Program)(ty:TypeId):SV->Option SV
 | .d t x=>cond (t.one&&t.nol) (some (.d t x)) none
 | .c (.slice none 0 0)=>match zR P ty with
   | some el=>(match qED P 8 el with
     | some t=>some (.d (.list el t) [])
     | none=>none)
   | none=>none
 | .c (.int k x)=>some (.c (.int k x))
 | .c .nilIface=>some (.c .nilIface)
 | .c (.bool b)=>some (.c (.bool b))
 | .c (.string b)=>some (.c (.string b))
 | .own k g n=>some (.own k g n)
 | .sl k g n o m=>some (.sl k g n o m)
 | .ref k o w=>some (.ref k o w)
 | .elt k g n w j o=>some (.elt k g n w j o)
 | .lp t xs j o=>some (.lp t xs j o)
 | .fn f a b=>some (.fn f a b)
 | _=>none
def zB3 (P:Program):List TypeId->List SV->Option (List SV)
 | ty::tys,v::l=>(match cond (Gc.ol ty) (some v) (rtS P ty v),zB3 P tys l with
   | some x,some y=>some (x::y)
   | _,_=>none)
 | [],l=>some l
 | _::_,[]=>some []
def zDO (P:Program)(ty:TypeId):SV->Option SV
 | .agg l=>(match zB3 P (vS P 8 ty) l with
   | some l'=>some (.agg l')
   | none=>none)
 | v=>rtS P ty v
theorem qPE {ty:TypeId}{v v':SV}(e:rtS P ty v=some v'):(rt1 P ty v.enc=v'.enc∧rt0 P ty v.enc=v'.enc)∧∀ h,v.ok h->v'.ok h:=by
 unfold rtS at e;split at e
 ·rename_i t x
  cases ht:(t.one&&t.nol) with
  | true =>
    rw[ht] at e;cases e
    refine⟨⟨?_,?_⟩,fun h hv=>hv⟩ <;>
    ·simp only[SV.enc];exact nU ht
  | false=>rw[ht] at e;cases e
 ·split at e
  ·rename_i el hel;split at e
   ·rename_i t ht;cases e
    refine⟨⟨?_,?_⟩,fun h _=>by simp[SV.ok]⟩ <;>
    ·simp only[SV.enc,fvv]
     show (match zR P ty with
      | some el=>PV.f (.l el 0 [])
      | none=>fvv (.slice none 0 0))=_
     rw[hel];rfl
   ·cases e
  ·cases e
 all_goals first
  | (cases e;exact⟨⟨by simp only[SV.enc];rfl,by simp only[SV.enc];rfl⟩,fun h hv=>hv⟩)
  | cases e
theorem qXR:∀ {tys:List TypeId} {l l':List SV},zB3 P tys l=some l'->rtL (rtC P) tys (qB l)=qB l'∧∀ h,okL h l->okL h l'
 | [],l,l',e=>by
   have e:some l=some l':=by cases l <;> exact e
   cases e;exact⟨by cases qB l <;> rfl,fun _ h=>h⟩
 | ty::tys,[],l',e=>by
   cases e;exact⟨by simp[qB,rtL],fun _ h=>h⟩
 | ty::tys,v::l,l',e=>by
   unfold zB3 at e;split at e
   ·rename_i x y hx hy;cases e;obtain⟨b1,b2⟩:=qXR hy
    have hv:rtC P ty v.enc=x.enc∧∀ h,v.ok h->x.ok h:=by
     unfold rtC
     cases hc:Gc.ol ty with
     | true=>rw[hc] at hx;cases hx;exact⟨rfl,fun _ h=>h⟩
     | false=>rw[hc] at hx;exact⟨(qPE hx).1.2,(qPE hx).2⟩
    refine⟨?_,fun h hl=>?_⟩
    ·simp only[qB,rtL,hv.1,b1]
    ·simp only[okL] at hl ⊢;exact⟨hv.2 h hl.1,b2 h hl.2⟩
   ·cases e
theorem q5S {ty:TypeId}{v v':SV}(e:zDO P ty v=some v'):rt1 P ty v.enc=v'.enc∧∀ h,v.ok h->v'.ok h:=by
 unfold zDO at e;split at e
 ·rename_i l;split at e
  ·rename_i l' hl;cases e;obtain⟨a1,a2⟩:=qXR hl;refine⟨?_,fun h hv=>?_⟩
   ·simp only[SV.enc];show PV.agg (rtL (rtC P) (vS P 8 ty) (qB l))=_;rw[a1]
   ·simp only[SV.ok] at hv ⊢;exact a2 h hv
  ·cases e
 ·exact⟨(qPE e).1.1,(qPE e).2⟩
def q8O (P:Program):List TypeId->List SV->Option (List SV)
 | _,[]=>some []
 | ty::tys,v::l=>(match zDO P ty v,q8O P tys l with
   | some x,some y=>some (x::y)
   | _,_=>none)
 | [],_::_=>none
theorem qYC:∀ {tys:List TypeId} {l l':List SV},q8O P tys l=some l'->rtL (rt1 P) tys (qB l)=qB l'∧∀ h,okL h l->okL h l'
 | tys,[],l',e=>by
   have:some []=some l':=by cases tys <;> exact e
   cases this;exact⟨by cases tys <;> simp[qB,rtL],fun h hl=>hl⟩
 | ty::tys,v::l,l',e=>by
   unfold q8O at e;split at e
   ·rename_i x y hx hy;cases e;obtain⟨a1,a2⟩:=q5S hx;obtain⟨b1,b2⟩:=qYC hy;refine⟨?_,fun h hl=>?_⟩
    ·simp only[qB,rtL,a1,b1]
    ·simp only[okL] at hl ⊢;exact⟨a2 h hl.1,b2 h hl.2⟩
   ·cases e
 | [],_::_,_,e=>by cases e
def qST:List SV->SV
 | [v]=>v
 | vs=>.tup vs
def zCM {R:Type}(P:Program)(zHE:List TypeId)(rl:List Nat)(K:SV->SH->zE9 R):vQ none R:=fun e _ env h=>match e with
 | .normal=>(match qFN rl env with
   | some vs=>(match q8O P zHE vs with
     | some ws=>K (qST ws) h
     | none=>.fail)
   | none=>.fail)
 | .ret=>(match qFN rl env with
   | some vs=>(match q8O P zHE vs with
     | some ws=>K (qST ws) h
     | none=>.fail)
   | none=>.fail)
 | _=>.fail
def q73:List ResultVar->Option (List Nat)
 | []=>some []
 | .tmp t::l=>(q73 l).map (t::·)
 | .cell _ _::_=>none
omit [Yl] in
theorem qIB {env:List PV}{ph:PHp}:∀ {l:List ResultVar} {rl:List Nat},q73 l=some rl->qGI P env ph l=some (rl.map fun t=>(zJ env t).getD .unk)
 | [],rl,e=>by cases e;rfl
 | .tmp t::l,rl,e=>by
   obtain⟨rl',h1,rfl⟩:=zM8.1 e;simp only[qGI,q1Y,qIB h1,zNH]
 | .cell _ _::_,rl,e=>by cases e
abbrev Ans:=List (FuncId×(An×List Ty))
def ciN [Hnd](P:Program)(G:Nat->Bool)(T:yY)(IT:List (FuncId×zFV))(ans:Ans):Nat->CIT
 | 0=>fun R nm f as h K=>zCE P f as h K (Hnd.ci R nm f as h K)
 | n+1=>fun R nm f as h K=>match P.funcs[f]?,lkA f ans with
   | some fn,some (an,rs)=>(match fn.body,q73 fn.results.toList with
     | some c,some rl=>cond (enters P f&&Nat.ble as.length fn.ntmps) (ev (Γ:=none) P G T IT (ciN P G T IT ans n) yi0 an (rdR P h fn.resultTypes.toList rs fn.results.toList) (enR fn.ntmps fn.results.toList rs) h c false nm () (as++List.replicate (fn.ntmps - as.length) .unk) h (zCM P fn.resultTypes.toList rl K)) .fail
     | _,_=>.fail)
   | _,_=>zCE P f as h K (Hnd.ci R nm f as h K)
theorem qX6 {R:Type}{nm:Nm}{f:FuncId}{as:List SV}{h:SH}{K:SV->SH->zE9 R}{F:zE9 R}{r:R}(ho:OkH P h)(e:(zCE P f as h K F).run=some r) :
 qDE P G nm f (qB as) (qD h.l) (fun v p=>∃ v' h',v=v'.enc∧p=qD h'.l∧Post P h h' v'∧(K v' h').run=some r)∨F.run=some r:=by
 have go:∀ {x y:SV} {s:ByteArray} {c z:Int},asS x=some s->asI y=some (.u8,c)->qNH P f=true∧yB P (callFunc f #[.string s,.int .u8 c])=some (.value (.int .i64 z))->(K (.d (.int .i64) z) h).run=some r ->
  qDE P G nm f (qB [x,y]) (qD h.l) (fun v p=>∃ v' h',v=v'.enc∧p=qD h'.l∧Post P h h' v'∧(K v' h').run=some r):=fun {x y s c z} hs hc hx hk=>by
  refine .inl ⟨hx.1,[.string s,.int .u8 c],.int .i64 z,?_,rfl,hx.2,rfl,_,h,?_,rfl,⟨.refl _,ho,?_⟩,hk⟩
  ·simp only[qB,uT hs,yD hc];rfl
  ·simp[SV.enc,Ty.fv];rfl
  ·simp[SV.ok]
 have go3:∀ {x y z:SV} {a b c u v:Int},asI x=some (.u64,a)->asI y=some (.u64,b)->asI z=some (.u64,c)->qNH P f=true∧yB P (callFunc f #[.int .u64 a,.int .u64 b,.int .u64 c])=some (.value (.tuple #[.int .u64 u,.int .u64 v]))->(K (.tup [.d (.int .u64) u,.d (.int .u64) v]) h).run=some r ->
  qDE P G nm f (qB [x,y,z]) (qD h.l) (fun v p=>∃ v' h',v=v'.enc∧p=qD h'.l∧Post P h h' v'∧(K v' h').run=some r):=fun {x y z a b c u v} ha hb hc hx hk=>by
  refine .inl ⟨hx.1,[.int .u64 a,.int .u64 b,.int .u64 c],.tuple #[.int .u64 u,.int .u64 v],?_,rfl,hx.2,rfl,_,h,?_,rfl,⟨.refl _,ho,?_⟩,hk⟩
  ·simp only[qB,yD ha,yD hb,yD hc];rfl
  ·simp[SV.enc,qB,Ty.fv];rfl
  ·simp[SV.ok,okL]
 unfold zCE at e;split at e
 ·rename_i x y hx;split at e
  ·rename_i s c hs hc;exact .inl (go hs hc (qTY hx) e)
  ·cases e
 ·rename_i x y hx;split at e
  ·rename_i s c hs hc;exact .inl (go hs hc (qTP hx) e)
  ·cases e
 ·rename_i x y z hx;split at e
  ·rename_i a b c ha hb hc
   rcases run_ite e with ⟨q,e1⟩ | ⟨_,e1⟩
   ·exact .inl (go3 ha hb hc (q5X hx q) e1)
   ·cases e1
  ·cases e
 ·rename_i x y z hx;split at e
  ·rename_i a b c ha hb hc
   rcases run_ite e with ⟨q,e1⟩ | ⟨_,e1⟩
   ·exact .inl (go3 ha hb hc (q7Y hx q) e1)
   ·cases e1
  ·cases e
 ·exact .inr e
theorem qQV {env:List SV}:∀ {rl:List Nat} {vs:List SV},qFN rl env=some vs->(rl.map fun t=>(zJ (qB env) t).getD PV.unk)=qB vs
 | [],vs,e=>by cases e;simp[qB]
 | i::is,vs,e=>by
   unfold qFN at e;split at e
   ·rename_i v l hx hl;cases e;rw[zNH,qQV hl,qU,hx];simp[qB]
   ·cases e
theorem q1A (l:List SV):(qST l).enc=qDC (qB l):=by
 match l with
 | []=>simp[qST,qDC,SV.enc,qB]
 | [v]=>simp[qST,qDC,qB]
 | a::b::l=>simp[qST,qDC,SV.enc,qB]
omit [Yl] in
theorem q7D {h:SH}{l:List SV}(hl:okL h l):(qST l).ok h:=by
 match l,hl with
 | [],hl=>simp[qST,SV.ok,okL]
 | [v],hl=>simp only[okL] at hl;exact hl.1
 | a::b::l,hl=>simp only[qST,SV.ok];exact hl
theorem qKP [Hnd][zF9 P G][zFW P G](s:zF2 P good nat G tab)(ht:qRC tab T)(hit:q6B P G IT)(ans:Ans):∀ n,qYZ P G (ciN P G T IT ans n)
 | 0=>by
   intro nm f as h K r ho ha e;unfold ciN at e;rcases qX6 (nm:=nm) ho e with h1 | h1
   ·exact h1
   ·exact zF9.ok (P:=P) (G:=G) nm f as h K r ho ha h1
 | n+1=>by
   intro nm f as h K r ho ha e;unfold ciN at e;split at e
   case h_2 =>
    rcases qX6 (nm:=nm) ho e with h1 | h1
    ·exact h1
    ·exact zF9.ok (P:=P) (G:=G) nm f as h K r ho ha h1
   rename_i fn an rs hfn hans;split at e
   case h_2=>cases e
   rename_i c rl hbody hrl;obtain⟨hc,e⟩:=qF e;rw[zMY] at hc;have hal:as.length<=fn.ntmps:=zM9 hc.2
   have hlen:(as++List.replicate (fn.ntmps - as.length) SV.unk).length=fn.ntmps:=by
    rw[zNK,zPU];omega
   refine qY5 hc.1 hfn hbody rfl ?_
   have zFI:qB as++List.replicate (fn.ntmps - (qB as).length) PV.unk=qB (as++List.replicate (fn.ntmps - as.length) .unk):=by
    rw[mX,qA0,qP]
   rw[zFI];refine (qQ.runs (q77 (Γ:=none) (wd:=zAI) s ht hit (qKP s ht hit ans n) zDF (fun nm=>qVT ho) c ho (aT ha (qJ7 _ _)) hlen (.refl _) e)).mono ?_;rintro ex pe ph ⟨env',h',rfl,rfl,k1,k2,k3,k0,k4,k5⟩
   have key:∀ {vs ws:List SV},qFN rl env'=some vs->q8O P fn.resultTypes.toList vs=some ws->(K (qST ws) h').run=some r->∃ v,vX P fn (qB env') (qD h'.l)=some v∧∃ v' h2,v=v'.enc∧qD h'.l=qD h2.l∧Post P h h2 v'∧(K v' h2).run=some r:=fun {vs ws} hvs hws hk=>by
    obtain⟨a1,a2⟩:=qYC hws;refine⟨(qST ws).enc,?_,qST ws,h',rfl,rfl,⟨k0,k2,q7D (a2 _ (zK.2 fun z hz=>zK.1 k1 z (qHD hvs z hz)))⟩,hk⟩;unfold vX;rw[qIB hrl,qQV hvs,q1A,<-a1];rfl
   cases ex with
   | normal =>
     simp only[zCM] at k5;split at k5
     ·split at k5
      ·exact⟨.inl rfl,key ‹_› ‹_› k5⟩
      ·cases k5
     ·cases k5
   | ret =>
     simp only[zCM] at k5;split at k5
     ·split at k5
      ·exact⟨.inr rfl,key ‹_› ‹_› k5⟩
      ·cases k5
     ·cases k5
   | exit _=>cases k5
   | goto _=>cases k5
end
noncomputable section
variable [Gc]
variable [Frs]
variable {P:Program}{G:Nat->Bool}{nm:Nm}{tab:uQ}{nat:xA}{good:FuncId->Bool}{T:yY}{IT:List (FuncId×zFV)}
def Lib (P:Program)(good:FuncId->Bool)(G:Nat->Bool)(T:yY)(IT:List (FuncId×zFV)):Prop:=∃ nat tab,zF2 P good nat G tab∧(∀ [Yl],qRC tab T)∧∀ [Yl],q6B P G IT
theorem Lib.zGW (L:Lib P good G T IT)(g:FuncId)(as rs:List Ty)(F:TyL as->Option (TyL rs))(hent:enters P g=true)
 (h:∀ {nat:xA},Setup P good nat G->∀ (x:TyL as) (y:TyL rs) (args:List Value) (H:IH),F x=some y->(∃ Z:Nat->Prop,VRL P Z H (fun _=>none) ((enL as).p x) args∧∀ b,Z b->b < H.size)->H.base<=H.size->GlH H->gP P G g args H fun q=>q1M P (enL as) F (kY rs) x args H q.1 q.2):Lib P good G ((g,⟨as,rs,F⟩)::T) IT:=by
 obtain⟨nat,tab,s,ht,hit⟩:=L
 letI:Yl:=⟨0⟩
 refine⟨_,_,s.zGW (enL as) F (kY rs) hent (qNB rs) (h s.s),?_,hit⟩;intro _ g' ent hg x;have hg:cond (Nat.beq g' g) (some (⟨as,rs,F⟩:Ent)) (slT g' T)=some ent:=hg;unfold q2Z
 cases hb:Nat.beq g' g with
 | true =>
   rw[hb] at hg;cases hg;exact qP1 (a:=enL as) x
 | false =>
   rw[hb] at hg;exact ht g' ent hg x
theorem Lib.add [Hnd][zF9 P G][zFW P G](L:Lib P good G T IT)(g:FuncId)(ans:Ans)(n:Nat)(an:An)(as rs:List Ty)(fn:Func)(F:TyL as->Option (TyL rs))(hent:enters P g=true)(hfn:P.funcs[g]?=some fn)(hc:qRU as rs fn=true)
 (hF:∀ (y:Yl) x,@fnS _ _ y P G T IT (ciN P G T IT ans n) an as rs fn x=F x):Lib P good G ((g,⟨as,rs,F⟩)::T) IT:=by
 obtain⟨nat,tab,s,ht,hit⟩:=L
 letI:Yl:=⟨0⟩
 have hF2:fnS P G T IT (ciN P G T IT ans n) an as rs fn=F:=funext fun x=>hF ⟨0⟩ x
 have zI1:=zBD (an:=an) (as:=as) (rs:=rs) s ht hit (qKP s ht hit ans n) hfn hc;rw[hF2] at zI1;refine⟨_,_,s.add (enL as) F (kY rs) hent (qNB rs) zI1,?_,hit⟩;intro _ g' ent hg x;have hg:cond (Nat.beq g' g) (some (⟨as,rs,F⟩:Ent)) (slT g' T)=some ent:=hg;unfold q2Z
 cases hb:Nat.beq g' g with
 | true =>
   rw[hb] at hg;cases hg;exact qP1 (a:=enL as) x
 | false =>
   rw[hb] at hg;exact ht g' ent hg x
theorem Lib.zLA [Hnd][zF9 P G][zFW P G](L:Lib P good G T IT)(g:FuncId)(ans:Ans)(an:An)(as rs:List Ty)(fn:Func)(F:TyL as->Option (TyL rs))(hent:enters P g=true)(hfn:P.funcs[g]?=some fn)(hc:qRU as rs fn=true)
 (hF:(fun (y:Yl) (x:TyL as)=>@fnS _ _ y P G T IT (ciN P G T IT ans 3) an as rs fn x)=fun (_:Yl) x=>F x):Lib P good G ((g,⟨as,rs,F⟩)::T) IT:=L.add g ans 3 an as rs fn F hent hfn hc fun y x=>congrFun (congrFun hF y) x
end
end Go.Sv
namespace Go.Sv
open Go.Idl
variable [Gc]{P:Program}{G:Nat->Bool}{tab:uQ}{nat:xA}{good:FuncId->Bool}
theorem qXP {k:IntKind}:∀ {cs:List FV},cs.all (isK k)=true->∃ xs:List Int,cs=List.flatMap (Ty.int k).cells xs∧xs.length=cs.length
 | [],_=>⟨[],rfl,rfl⟩
 | c::cs,h=>by
   rw[zOD,zMY] at h;obtain⟨xs,h1,h2⟩:=qXP h.2;have hc:=h.1;unfold isK at hc;split at hc
   ·rename_i k' x;have:k=k':=of_decide_eq_true hc;subst this;exact⟨x::xs,by rw[zNQ,<-h1];rfl,by rw[zNZ,zNZ,h2]⟩
   ·cases hc
theorem q9C [Frs] (s:zF2 P good nat G tab) (h:∀ g el,Frs.fr g=some el->enters P g=true∧qNH P g=false∧szT P el=some 1∧tab g [.f (.l el 0 [])]=some (.f (.l el 0 [])) ∧
 ∀ (xs:List Int),xs≠[]->Nat.ble xs.length 1048576=true->qDE P G nm0 g [.f (.l el xs.length (List.flatMap (Ty.int Frs.fk).cells xs))] [] fun v p=>∃ k0,v=.own k0 xs.length 0 xs.length∧qA k0 p=some ⟨el,true,(List.flatMap (Ty.int Frs.fk).cells xs).map .f⟩):zFW P G:=by
 refine⟨fun g el hg=>?_⟩;obtain⟨h1,hx,hsz,h2,h3⟩:=h g el hg;refine⟨h1,fun n cs hfo Z H zFN hp hb hv=>?_⟩;unfold qLG at hfo;rw[hsz] at hfo;simp only[zMY] at hfo;obtain⟨f1,f2,_,f3⟩:=hfo;obtain⟨xs,rfl,hlen⟩:=qXP f3
 have hn:n=xs.length:=by
  have:=zMZ f1;omega
 subst hn;by_cases hxs:xs=[]
 ·subst hxs;obtain⟨_,_,k,hk,hc⟩:=s.t g _ _ h2;intro args' f w hR hG ha;refine s.s.spec g k hk zFN args' H f w _ hR hG ha (hc Z H zFN hv hp.zlt hb hp.gl _ fun v H' Z' k1 k2 k3 k4 k5=>?_);have hp2:Hp P Z' H' (own (fun _=>0) []):=hp.old k1 k2 k3 k4;exact⟨Z',fun _=>0,.f (.l el 0 []),[],hp2,k5,.old k1 k2 k4,.inl ⟨rfl,rfl⟩⟩
 ·rcases h3 xs hxs f2 with ⟨e,_⟩ | ⟨_,hc⟩
  ·rw[hx] at e;cases e
  ·refine (hc Z H (fun _=>0) zFN hp hb hv).mono ?_;rintro r ⟨Z',m',pv,ph',a,b,c,d,k0,rfl,e⟩;refine⟨Z',m',_,ph',a,b,c,.inr ⟨fun h=>hxs (List.eq_nil_of_length_eq_zero h),k0,rfl,e⟩⟩
end Go.Sv
namespace Go.Sv
open Go.Idl
noncomputable section
variable [Gc]
variable [Frs]
variable [Yl]
variable {P:Program}{G:Nat->Bool}{nm:Nm}{tab:uQ}{nat:xA}{good:FuncId->Bool}{T:yY}{IT:List (FuncId×zFV)}{R:Type}{r:R}
def q0I:SV->SV->Bool
 | .ref k o w,.ref k' o' w'=>Nat.beq k k'&&(Nat.beq o o'&&Nat.beq w w')
 | _,_=>false
def qQW:List SV->List SV->Bool
 | [],[]=>true
 | x::l,y::m=>q0I x y&&qQW l m
 | _,_=>false
def qYH:SV->SV->Bool
 | .fn f [] b,.fn g [] d=>Nat.beq f g&&qQW b d
 | x,y=>q0I x y
omit [Yl] in
theorem qN7 {x y:SV}(e:q0I x y=true):x=y:=by
 unfold q0I at e;split at e
 ·simp only[zMY] at e;rw[zMZ e.1,zMZ e.2.1,zMZ e.2.2]
 ·cases e
omit [Yl] in
theorem qHS:∀ {x y:List SV},qQW x y=true->x=y
 | [],[],_=>rfl
 | a::x,b::y,e=>by
   simp only[qQW,zMY] at e;rw[qN7 e.1,qHS e.2]
 | [],_::_,e=>by cases e
 | _::_,[],e=>by cases e
omit [Yl] in
theorem qTB {x y:SV}(e:qYH x y=true):x=y:=by
 unfold qYH at e;split at e
 ·rw[zMY] at e;rw[zMZ e.1,qHS e.2]
 ·exact qN7 e
def q7U (d:List Nat):Nat->List SV->List SV->Bool
 | _,[],[]=>true
 | i,x::l,y::m=>(oW i d||qYH x y)&&q7U d (i+1) l m
 | _,_,_=>false
omit [Yl] in
theorem qNI {d:List Nat}:∀ {i:Nat} {l m:List SV},q7U d i l m=true->l.length=m.length∧∀ j,(j+i) ∉ d->zJ l j=zJ m j
 | _,[],[],_=>⟨rfl,fun _ _=>rfl⟩
 | i,x::l,y::m,e=>by
   simp only[q7U,zMY,zN1] at e;obtain⟨a1,a2⟩:=qNI e.2;refine⟨by simp[a1],fun j hj=>?_⟩
   cases j with
   | zero =>
     rcases e.1 with q | q
     ·exact absurd (xH.1 q) (by simpa using hj)
     ·rw[qTB q];rfl
   | succ j=>exact a2 j (by rw[zOW,zPR 1 i] at hj;exact hj)
 | _,[],_::_,e=>by cases e
 | _,_::_,[],e=>by cases e
def qI5 (ls:List Nat):List (Nat×SO)->List (Nat×SO)
 | []=>[]
 | p::l=>cond (oW p.1 ls) (p::qI5 ls l) (qI5 ls l)
omit [Yl] in
theorem qAR {ls:List Nat}{k:Nat}(hk:k∈ls):∀ {l:List (Nat×SO)},slk k (qI5 ls l)=slk k l
 | []=>rfl
 | (j,p)::l=>by
   unfold qI5;by_cases hjk:k=j
   ·subst hjk;simp only[xH.2 hk,cond_true];simp[slk]
   ·have hb:(k==j)=false:=by simpa using hjk
    cases hm:oW j ls with
    | true=>simp[slk,hb,qAR hk (l:=l)]
    | false=>simp[slk,hb,qAR hk (l:=l)]
omit [Yl] in
theorem qOX:∀ {is:List Nat} {m r1 r2:List SV},(dG is m r1).2=(dG is m r2).2
 | [],m,r1,r2=>rfl
 | i::is,c::m,r1,r2=>qOX (is:=is) (m:=m)
 | _::_,[],_,_=>rfl
omit [Yl] in
theorem aH {ls:List Nat}{k:Nat}{o:SO}:∀ {l:List (Nat×SO)},slk k (qI5 ls l)=some o->k∈ls∧slk k l=some o
 | [],h=>by cases h
 | (j,p)::l,h=>by
   unfold qI5 at h;by_cases hjk:k=j
   ·subst hjk
    cases hm:oW k ls with
    | true =>
      simp only[hm,cond_true] at h;refine⟨xH.1 hm,?_⟩;simpa [slk] using h
    | false =>
      simp only[hm,cond_false] at h;have:=(aH h).1;rw[xH.2 this] at hm;cases hm
   ·have hb:(k==j)=false:=by simpa using hjk
    have h2:slk k (qI5 ls l)=some o:=by
     cases hm:oW j ls with
     | true=>simpa [hm,slk,hb] using h
     | false=>simpa [hm] using h
    obtain⟨a,b⟩:=aH h2;exact⟨a,by simpa [slk,hb] using b⟩
def SH.only (h:SH)(ls:List Nat):SH:=⟨h.next,qI5 ls h.l⟩
omit [Yl] in
theorem qZZ {h:SH}{ls:List Nat}(a:OkH P h):Keep h (h.only ls)∧OkH P (h.only ls):=by
 have hl:∀ j ob,slk j (h.only ls).l=some ob->slk j h.l=some ob:=fun j ob hj=>(aH hj).2
 have hkp:Keep h (h.only ls):=⟨zM0 _,fun j ob hj _=>hl j ob hj,fun j el gr g w t xs hj _=>⟨w,xs,hl _ _ hj,rfl⟩⟩
 exact⟨hkp,⟨fun j ob hj=>a.ver j ob (hl j ob hj),fun j el w l hj=>qI hkp (a.cells j el w l (hl _ _ hj)),fun j el gr g w t xs hj=>a.list j el gr g w t xs (hl _ _ hj)⟩⟩
structure RT where
 g:FuncId
 nm:Nm
 as:List SV
 bx:List (Nat×TypeId)
 cx:List (Nat×TypeId×List SV)
 d:List Nat
 os:List (Nat×Bool)
 b:List (Nat×List (Option Nat))
 ts:List Ty
 fz:List (Nat×TypeId)
def RT.sh (q:RT):Sh:=⟨q.d,q.os.map (·.1),[],[],[],q.b,[]⟩
def qY0:List (Nat×TypeId)->List (Nat×SO)
 | []=>[]
 | p::l=>(p.1,.cells p.2 0 [])::qY0 l
def q8W (bs:List (Nat×SO)):List (Nat×TypeId×List SV)->List (Nat×SO)
 | []=>bs
 | p::l=>(p.1,.cells p.2.1 0 p.2.2)::q8W bs l
def RT.hT (q:RT):SH:=⟨1,q8W (qY0 q.bx) q.cx⟩
def zCH:SV->Bool
 | .ref _ _ _=>true
 | .fn _ [] b=>b.all fun x=>match x with
   | .ref _ _ _=>true
   | _=>false
 | _=>false
omit [Yl] in
theorem qT0 {h:SH}{x:SV}(e:zCH x=true):x.ok h:=by
 unfold zCH at e;split at e
 ·simp[SV.ok]
 ·rename_i f b;simp only[SV.ok,okL,true_and];refine zK.2 fun y hy=>?_
  have:=zM1.1 e y hy;split at this
  ·simp[SV.ok]
  ·cases this
 ·cases e
def RT.chk (q:RT):Bool:=(q.as.all fun x=>zCH x||(match x with
 | .unk=>true
 | _=>false))&&q.cx.all fun p=>p.2.2.all zCH
omit [Yl] in
theorem qKC {k:Nat}{o:SO}:∀ {l:List (Nat×TypeId)},slk k (qY0 l)=some o->∃ el,o=.cells el 0 []
 | [],h=>by cases h
 | p::l,h=>by
   have h:cond (k==p.1) (some (SO.cells p.2 0 [])) (slk k (qY0 l))=some o:=h
   cases hk:k==p.1 with
   | true=>rw[hk] at h;cases h;exact⟨_,rfl⟩
   | false=>rw[hk] at h;exact qKC h
omit [Yl] in
theorem nR {k:Nat}{o:SO}{bs:List (Nat×TypeId)}:∀ {l:List (Nat×TypeId×List SV)},slk k (q8W (qY0 bs) l)=some o->(∃ el,o=.cells el 0 [])∨∃ p∈l,o=.cells p.2.1 0 p.2.2
 | [],h=>.inl (qKC h)
 | p::l,h=>by
   have h:cond (k==p.1) (some (SO.cells p.2.1 0 p.2.2)) (slk k (q8W (qY0 bs) l))=some o:=h
   cases hk:k==p.1 with
   | true=>rw[hk] at h;cases h;exact .inr ⟨p,zM5,rfl⟩
   | false =>
     rw[hk] at h
     rcases nR h with q | ⟨p',q,e⟩
     ·exact .inl q
     ·exact .inr ⟨p',zM3 _ q,e⟩
omit [Yl] in
theorem RT.ok {q:RT}(h:q.chk=true):OkH P q.hT∧okL q.hT q.as:=by
 unfold RT.chk at h;rw[zMY] at h;refine⟨⟨fun k ob hk=>?_,fun k el w l hk=>?_,fun k el gr g w t xs hk=>?_⟩,zK.2 fun x hx=>?_⟩
 ·rcases nR hk with ⟨el,rfl⟩ | ⟨p,_,rfl⟩ <;> exact Nat.zero_lt_one
 ·rcases nR hk with ⟨el,e⟩ | ⟨p,hp,e⟩
  ·cases e;simp[okL]
  ·cases e;exact zK.2 fun x hx=>qT0 (zM1.1 (zM1.1 h.2 p hp) x hx)
 ·rcases nR hk with ⟨el,e⟩ | ⟨p,_,e⟩ <;> cases e
 ·have:=zM1.1 h.1 x hx;rw[zN1] at this;rcases this with e | e
  ·exact qT0 e
  ·split at e
   ·simp[SV.ok]
   ·cases e
def q8H (cx:List (Nat×TypeId×List SV))(h:SH):Bool:=cx.all fun p=>match slk p.1 h.l with
 | some (.cells el _ l)=>Nat.beq el p.2.1&&(Nat.beq l.length p.2.2.length&&q7U [] 0 l p.2.2)
 | _=>false
omit [Yl] in
theorem q4U {l m:List SV}(e:q7U [] 0 l m=true):l=m:=by
 obtain⟨a,b⟩:=qNI e;apply zOI;intro i;have:=b i (by simp)
 rwa [qG,qG] at this
def RT.rd (q:RT)(h1:SH)(env:List SV)(h:SH):Option (TyL q.ts):=match qFN q.d env,qSQ q.sh.o h,qYR q.b h with
 | some a,some b,some c=>(match sQ q.ts (a++(b++c)) with
   | some s=>cond (qSV q.os h&&(mM (q.b.map (·.1)) q.b h1 h&&q8H q.cx h)) (some s) none
   | none=>none)
 | _,_,_=>none
def RT.bs (q:RT):List Nat:=q.b.map (·.1)++q.cx.map (·.1)
def RT.put (P:Program)(q:RT)(env:List SV)(h:SH)(s:TyL q.ts):Option (List SV×SH):=mkS P q.d q.sh q.ts q.os env h s
def RT.call (q:RT)(nm:Nm)(as:List SV)(h:SH):Option (TyL q.ts):=cond (q7U q.d 0 as q.as&&((q.os.all fun p=>nm.p p.1||!q.nm.p p.1)&&(q.bs.all fun k=>!q.nm.p k))) (q.rd q.hT as h) none
def recC (P:Program)(q:RT)(F:TyL q.ts->Option (TyL q.ts))(CI:CIT):CIT:=fun R nm f as h K=>cond (Nat.beq f q.g)
 (match q.call nm as h with
   | some s=>.bind (F s) fun s'=>goS (q.put P as (h.only q.bs) s') fun _ hh=>K (.tup []) hh
   | none=>.fail)
 (CI R nm f as h K)
def zE6 (P:Program)(q:RT):vQ none (TyL q.ts):=fun e _ env h=>match e with
 | .normal=>fzv P q.nm q.fz env h fun env h=>q.rd q.hT env h
 | .ret=>fzv P q.nm q.fz env h fun env h=>q.rd q.hT env h
 | _=>none
def zDQ (P:Program)(G:Nat->Bool)(T:yY)(IT:List (FuncId×zFV))(q:RT)(CI:CIT)(an:An)(fn:Func)(s:TyL q.ts):Option (TyL q.ts):=match fn.body,q.put P q.as q.hT s with
 | some c,some p=>(ev (Γ:=none) P G T IT CI yi0 an (rdR P ⟨0,[]⟩ fn.resultTypes.toList [] []) (enR fn.ntmps [] []) ⟨0,[]⟩ c false q.nm () (p.1++List.replicate (fn.ntmps - p.1.length) .unk) p.2 (zE6 P q)).run
 | _,_=>none
def qXE (P:Program)(q:RT)(fn:Func):Bool:=enters P q.g&&(q.chk&&(Nat.ble q.as.length fn.ntmps&&fn.results.toList.isEmpty))
theorem RT.zI2 {q:RT}{h1:SH}{env:List SV}{h:SH}{s:TyL q.ts}(e:q.rd h1 env h=some s) :
 ∃ a b c,qFN q.d env=some a∧qSQ q.sh.o h=some b∧qYR q.b h=some c∧sQ q.ts (a++(b++c))=some s∧qSV q.os h=true∧mM (q.b.map (·.1)) q.b h1 h=true∧q8H q.cx h=true:=by
 unfold RT.rd at e;split at e
 case h_2=>cases e
 rename_i a b c ha hb hc;split at e
 case h_2=>cases e
 rename_i s' hs
 cases hx:(qSV q.os h&&(mM (q.b.map (·.1)) q.b h1 h&&q8H q.cx h)) with
 | false=>rw[hx] at e;cases e
 | true =>
   rw[hx] at e;cases e;simp only[zMY] at hx;exact⟨a,b,c,ha,hb,hc,hs,hx.1,hx.2.1,hx.2.2⟩
omit [Yl] in
theorem qMY {cx:List (Nat×TypeId×List SV)}{h:SH}(e:q8H cx h=true){p:Nat×TypeId×List SV}(hp:p∈cx):∃ w,slk p.1 h.l=some (.cells p.2.1 w p.2.2):=by
 unfold q8H at e;have:=zM1.1 e p hp;split at this
 ·rename_i el w l hl;simp only[zMY] at this;rw[hl,zMZ this.1,q4U this.2.2];exact⟨w,rfl⟩
 ·cases this
theorem q07 {q:RT}{h:SH}(e:q8H q.cx h=true){k:Nat}{o:SO}(hk:k ∉ q.b.map (·.1))(hq:∀ p∈q.bx,p.1∈q.b.map (·.1))(hl:slk k q.hT.l=some o):qA k (qD h.l)=some o.enc:=by
 have go:∀ {l:List (Nat×TypeId×List SV)},(∀ p∈l,p∈q.cx)->slk k (q8W (qY0 q.bx) l)=some o->qA k (qD h.l)=some o.enc:=fun {l}=>by
  induction l with
  | nil =>
    intro _ hl
    have gb:∀ {m:List (Nat×TypeId)},(∀ p∈m,p∈q.bx)->slk k (qY0 m)=some o->False:=fun {m}=>by
     induction m with
     | nil=>intro _ h;cases h
     | cons p m ih =>
       intro hm h;have h:cond (k==p.1) (some (SO.cells p.2 0 [])) (slk k (qY0 m))=some o:=h
       cases hb:k==p.1 with
       | true =>
         have:k=p.1:=by simpa using hb
         exact hk (by rw[this];exact hq p (hm p zM5))
       | false=>rw[hb] at h;exact ih (fun x hx=>hm x (zM3 _ hx)) h
    exact (gb (fun _ h=>h) hl).elim
  | cons p l ih =>
    intro hm h2;have h2:cond (k==p.1) (some (SO.cells p.2.1 0 p.2.2)) (slk k (q8W (qY0 q.bx) l))=some o:=h2
    cases hb:k==p.1 with
    | true =>
      rw[hb] at h2;cases h2;have:k=p.1:=by simpa using hb
      subst this;obtain⟨w,hw⟩:=qMY e (hm p zM5);rw[zM hw];rfl
    | false=>rw[hb] at h2;exact ih (fun x hx=>hm x (zM3 _ hx)) h2
 exact go (fun _ h=>h) hl
def RT.zLB (q:RT):Bool:=q.bx.all fun p=>oW p.1 (q.b.map (·.1))
theorem qW3 [zFW P G](s:zF2 P good nat G tab)(ht:qRC tab T)(hit:q6B P G IT){q:RT}{CI' CI:CIT}(hci:qYZ P G CI)(zMF:qYZ P G CI'){an:An}{fn:Func}(hfn:P.funcs[q.g]?=some fn)(hc:qXE P q fn=true)(hbx:q.zLB=true){F:TyL q.ts->Option (TyL q.ts)}
 (hF:∀ x y,F x=some y->zDQ P G T IT q CI' an fn x=some y):qYZ P G (recC P q F CI):=by
 intro R nm f as h K r ho ha e;unfold recC at e
 cases hf:Nat.beq f q.g with
 | false=>rw[hf] at e;exact hci nm f as h K r ho ha e
 | true =>
 rw[hf] at e;have:=zMZ hf;subst this;simp only[cond_true] at e;split at e
 case h_2=>cases e
 rename_i x hcall;obtain⟨y,hy,e⟩:=run_bind e;obtain⟨e2,hh,zLC,hK⟩:=mW e;unfold RT.call at hcall
 cases hck:(q7U q.d 0 as q.as&&((q.os.all fun p=>nm.p p.1||!q.nm.p p.1)&&(q.bs.all fun k=>!q.nm.p k))) with
 | false=>rw[hck] at hcall;cases hcall
 | true =>
 rw[hck] at hcall;simp only[zMY] at hck;obtain⟨has,hos,hbs⟩:=hck;obtain⟨a,b,c,r1,r2,r3,r4,r5,r6,r7⟩:=RT.zI2 hcall;have hrun:=hF x y hy;unfold zDQ at hrun;split at hrun
 case h_2=>cases hrun
 rename_i code p hbody hmk;obtain⟨ec,hcn⟩:=p;unfold qXE at hc;simp only[zMY] at hc;obtain⟨hent,hqc,hlen,hres⟩:=hc;obtain⟨hoT,haT⟩:=RT.ok (P:=P) hqc;have hq:∀ p∈q.bx,p.1∈q.b.map (·.1):=fun p hp=>xH.1 (zM1.1 hbx p hp)
 obtain⟨l1,l2⟩:=qNI has;have hbl:WkP (qB as) (qB (blank q.d 0 q.as)):=qAC l1 fun i hi=>by rw[qU,qU,l2 i hi]
 obtain⟨wp,sp⟩:=q19 (sh:=q.sh) ho hoT ha r1 r2 r3 r4 hmk rfl r5 rfl r6 (fun k o _ hk hl=>q07 r7 hk hq hl) hbl;obtain⟨_,m2,m3,m4,_,_⟩:=uS hoT haT hmk;have hal:ec.length<=fn.ntmps:=by rw[m4];exact zM9 hlen
 have hl:(ec++List.replicate (fn.ntmps - ec.length) SV.unk).length=fn.ntmps:=by
  rw[zNK,zPU];omega
 have hrr:fn.results.toList=[]:=by
  cases hx:fn.results.toList with
  | nil=>rfl
  | cons _ _=>rw[hx] at hres;cases hres
 have hev:=qQ.runs (q77 (Γ:=none) (wd:=zAI) (an:=an) (rdv:=rdR P ⟨0,[]⟩ fn.resultTypes.toList [] []) (en:=enR fn.ntmps [] []) (hb:=⟨0,[]⟩) (N:=fn.ntmps) s ht hit zMF zDF (fun nm=>qVT (rs:=[]) (rv:=[]) qE9) code m2 (aT m3 (qJ7 _ _)) hl ⟨zO1 _,fun k ob _ h=>absurd h (zOU _),fun k el gr g w t xs _ h=>absurd h (zOU _)⟩ hrun);refine .inr ⟨hent,fun Z H m zFN hp zMG hv=>?_⟩;refine gP.of hfn hbody rfl ?_;obtain⟨Z1,mm,w1,w2,w3,w4⟩:=Wk.drop (P:=P) (nm:=q.nm) wp sp Z H m zFN hp hv;have hla:zFN.length=ec.length:=by rw[<-w2.len,qP]
 have zFI:VRL P Z1 H (own mm (qD hcn.l)) (qB (ec++List.replicate (fn.ntmps - ec.length) .unk)) (zFN++List.replicate (fn.ntmps - zFN.length) undef):=by
  rw[mX,qA0,hla];refine VRL.append w2 ⟨by simp,fun i z v h1 h2=>?_⟩;rw[zP9] at h1;split at h1
  ·cases h1;exact .unk
  ·cases h1
 refine (hev Z1 H mm _ w1 zMG zFI).mono ?_;rintro o ⟨Z2,m',zFS,ph2,a1,b1,c1,d1,env',h',rfl,rfl,k1,k2,k3,k0,k4,k5⟩
 have hpr:vX P fn (qB env') (qD h'.l)=some (.tup []):=by
  unfold vX;rw[hrr];cases hx:fn.resultTypes.toList <;> rfl
 obtain⟨u,v1,v2⟩:=mK a1 b1 hpr
 obtain⟨he,zMH⟩:(o.e=.normal∨o.e=.ret)∧(fzv P q.nm q.fz env' h' fun env h=>(q.rd q.hT env h:zE9 (TyL q.ts))).run=some y:=by
  cases ho:o.e with
  | normal=>rw[ho] at k5;exact⟨.inl rfl,k5⟩
  | ret=>rw[ho] at k5;exact⟨.inr rfl,k5⟩
  | exit _=>rw[ho] at k5;cases k5
  | goto _=>rw[ho] at k5;cases k5
 obtain⟨zFG,h1,wz,zGN,hrd⟩:=qOV (nm:=q.nm) k2 k1 zMH;have hrd:q.rd q.hT zFG h1=some y:=hrd;have ho1:=zGN.2.1;obtain⟨Z3,m3',x1,x2,x3,x4⟩:=wz Z2 o.H m' o.env a1 b1;obtain⟨a',b',c',s1,s2,s3,s4,s5,s6,s7⟩:=RT.zI2 hrd;obtain⟨ko,kok⟩:=qZZ (ls:=q.bs) ho;have hde:=aN s4
 -- the state behind it,where the call stands
 have hsb:mM (q.b.map (·.1)) q.b (h.only q.bs) h1=true:=by
  unfold mM at s6 r6 ⊢;rw[zM1] at s6 r6 ⊢;intro p hp;have h1:=s6 p hp;have h2:=r6 p hp;have hk:slk p.1 (h.only q.bs).l=slk p.1 h.l:=qAR (zOC _ (zQL hp));rw[zMY,zMY] at h1 h2 ⊢;refine⟨h1.1,h1.2.1,?_⟩;have g1:=h1.2.2;have g2:=h2.2.2;rw[hk];split at g1
  ·rename_i e1 _ _ e3 _ l3 q1 q2;rw[q1] at g2;split at g2
   ·rename_i e4 _ _ e5 _ l5 q3 q4;cases q3;rw[q4,q2];simp only;rw[zMY] at g1 g2 ⊢;rw[<-zMZ g2.1];exact g1
   ·cases g2
  ·cases g1
 have hw2:qB (dG q.d (svL q.ts y) (blank q.d 0 as)).2=qB (b'++c'):=by
  rw[qOX (r2:=zFG)];exact (qLH (m:=svL q.ts y) s1 hde (WkP.refl _)).2
 obtain⟨n1,n2,n3,_,_,n6⟩:=uS kok (qI ko ha) zLC
 obtain⟨_,_,hsub⟩:=qQM (sh:=q.sh) ho1 kok s2 s3 hw2 zLC rfl s5 hsb (fun k o hk1 hk2 hl=>by
  obtain⟨t1,t2⟩:=aH hl;rcases zNM.1 t1 with q1 | q1
  ·exact absurd q1 hk2
  ·obtain⟨p,hp,rfl⟩:=zNO.1 q1;obtain⟨w5,u1⟩:=qMY r7 hp;obtain⟨w6,u2⟩:=qMY s7 hp;rw[u1] at t2;cases t2
   rw[zM u2];rfl)
 have hfz:=Fz.drop x1 (qAT hsub);have v3:VR P Z3 o.H (own m3' (qD hh.l)) (.tup []) u:=qDM v2 rfl _ _ _;refine⟨he,u,v1,Z3,m3',.tup [],qD hh.l,hfz.hp,v3,w3.trans (c1.trans (x3.trans hfz.step)),?_,.tup [],hh,by simp[SV.enc,qB],rfl,⟨ko.trans n1,n2,by simp[SV.ok,okL]⟩,hK⟩;have hkr:=w4.trans (d1.trans (x4.trans (hfz.kr (inP q.nm))));intro k b0 ob0 hk;rcases hkr k b0 ob0 hk with h1 | h1 | h1
 ·exact .inl h1
 ·exact .inr (.inl h1)
 ·refine .inr (.inr ?_);obtain⟨hk1,_⟩:=vL hk;rw[vC] at hk1;obtain⟨o2,hk2,_⟩:=zM8.1 hk1;have h1:q.nm.p k=true:=h1
  have hnb:k ∉ q.bs:=fun hm=>by
   have:=zM1.1 hbs k hm;rw[h1] at this;cases this
  by_cases hko:k∈q.os.map (·.1)
  ·obtain⟨p,hp,rfl⟩:=zNO.1 hko;have:=zM1.1 hos p hp;rw[zN1,h1] at this;rcases this with q | q
   ·exact q
   ·cases q
  ·have hkb:k ∉ q.sh.b.map (·.1):=fun hm=>hnb (zOC _ hm)
   rw[n6 k hko hkb] at hk2;exact absurd (aH hk2).1 hnb
def qP4 {as:List Ty}(S:(TyL as->Option (TyL as))->TyL as->Option (TyL as)):Nat->TyL as->Option (TyL as)
 | 0,_=>none
 | n+1,x=>S (qP4 S n) x
end
end Go.Sv
namespace Go.Sv
open Go.Idl
noncomputable section
variable [Gc]
variable [Frs]
variable {P:Program}{G:Nat->Bool}{good:FuncId->Bool}{T:yY}{IT:List (FuncId×zFV)}
abbrev q4L [h:Hnd](P:Program)(q:RT)(F:TyL q.ts->Option (TyL q.ts)):Hnd:=⟨recC P q F h.ci⟩
def zEU [Hnd][Yl](P:Program)(G:Nat->Bool)(T:yY)(IT:List (FuncId×zFV))(q:RT)(ans:Ans)(an:An)(fn:Func)(F:TyL q.ts->Option (TyL q.ts))(s:TyL q.ts):Option (TyL q.ts) :=
 zDQ P G T IT q (@ciN _ _ _ (q4L P q F) P G T IT ans 3) an fn s
theorem q3D [Hnd][zF9 P G][zFW P G](L:Lib P good G T IT)(q:RT)(ans:Ans)(an:An)(fn:Func)(S:(TyL q.ts->Option (TyL q.ts))->TyL q.ts->Option (TyL q.ts))(hfn:P.funcs[q.g]?=some fn)(hc:(qXE P q fn&&q.zLB)=true)
 (hS:(fun (y:Yl) F x=>@zEU _ _ _ y P G T IT q ans an fn F x)=fun (_:Yl) F x=>S F x):∀ n,@zF9 _ P G (q4L P q (qP4 S n))
 | 0=>by
   refine @zF9.mk _ P G (q4L P q (qP4 S 0)) fun {y}=>?_
   obtain⟨nat,tab,s,ht,hit⟩:=L;rw[zMY] at hc;exact qW3 s ht hit (CI':=Hnd.ci) zF9.ok zF9.ok (an:=an) hfn hc.1 hc.2 fun x y h=>by cases h
 | n+1=>by
   have ih:=q3D L q ans an fn S hfn hc hS n;refine @zF9.mk _ P G (q4L P q (qP4 S (n+1))) fun {y}=>?_
   obtain⟨nat,tab,s,ht,hit⟩:=L;rw[zMY] at hc;refine qW3 s ht hit (CI':=@ciN _ _ _ (q4L P q (qP4 S n)) P G T IT ans 3) zF9.ok (@qKP _ _ _ _ _ _ _ _ _ _ (q4L P q (qP4 S n)) ih _ s ht hit ans 3) (an:=an) hfn hc.1 hc.2 fun x z h=>?_
   have h2:=congrFun (congrFun (congrFun hS y) (qP4 S n)) x;rw[<-h];exact h2
end
end Go.Sv
