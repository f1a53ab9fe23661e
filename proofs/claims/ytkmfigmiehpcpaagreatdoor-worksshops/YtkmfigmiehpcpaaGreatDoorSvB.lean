/- A symbolic run, part two. Conditions: none. -/
import Derived.Test.YtkmfigmiehpcpaaGreatDoorSvA
set_option linter.all false
namespace Go.Sv
open Go.Idl
variable {c i s:Nat}{env:List SV}{h:SH}{ob:PO}{ph ph':PHp}{ty:TypeId}{v:SV}{x y:PV}
noncomputable section
variable [Gc]
variable [Yl]
variable {P:Program}{R:Type}{r:R}{G:Nat->Bool}{nm:Nm}{rd:Bool}
def Wk (P:Program)(nm:Nm)(pe:List PV)(ph:PHp)(pe':List PV)(ph':PHp):Prop :=
 ∀ (Z:Nat->Prop) (H:IH) (m:Nat->Nat) (vs:List Value),Hp P Z H (own m ph)->VRL P Z H (own m ph) pe vs ->
  ∃ Z' m',Hp P Z' H (own m' ph')∧VRL P Z' H (own m' ph') pe' vs∧Step Z H (own m ph) Z' H (own m' ph')∧KR (inP nm) (own m ph) (own m' ph')
omit [Yl] in
theorem Wk.refl (pe:List PV)(ph:PHp):Wk P nm pe ph pe ph:=fun Z H m vs hp hv=>⟨Z,m,hp,hv,.refl _ _ _,.refl _ _⟩
omit [Yl] in
theorem Wk.trans {a b c:List PV}{p q s:PHp}(x:Wk P nm a p b q)(y:Wk P nm b q c s):Wk P nm a p c s:=fun Z H m vs hp hv=>by
 obtain⟨Z1,m1,a1,a2,a3,a4⟩:=x Z H m vs hp hv;obtain⟨Z2,m2,b1,b2,b3,b4⟩:=y Z1 H m1 vs a1 a2;exact⟨Z2,m2,b1,b2,a3.trans b3,a4.trans b4⟩
omit [Yl] in
theorem Wk.drop {a b:List PV}{p q:PHp}(hw:WkP a b)(hs:qCM q p):Wk P nm a p b q:=fun Z H m vs hp hv=>by
 have hf:=Fz.drop hp hs;exact⟨Z,m,hf.hp,hw.rel (hf.vrl hv),hf.step,hf.kr _⟩
omit [Yl] in
theorem qO0:∀ {l m:List PV},l.length=m.length->(∀ i,zL m i=zL l i∨zL m i=some .unk)->WkP l m
 | [],[],_,_=>.nil
 | [],_::_,h,_=>by cases h
 | _::_,[],h,_=>by cases h
 | x::l,y::m,h,hi=>by
   have ih:=qO0 (l:=l) (m:=m) (by simpa using h) fun i=>hi (i+1)
   rcases hi 0 with q | q
   ·have q:some y=some x:=q;cases q;exact .same ih
   ·have q:some y=some PV.unk:=q;cases q;exact .any ih
def fzs (P:Program):List (Nat×TypeId)->List SV->SH->(List SV->SH->zED R)->zED R
 | [],env,h,K=>K env h
 | (i,ty)::l,env,h,K=>match zL env i,qDM P 8 ty with
   | some v,some t=>(match q6H P ty t v h with
     | some (x,h')=>fzs P l (yT env i (t.sv x)) h' K
     | none=>.fail)
   | _,_=>.fail
def xQ (P:Program)(w:List Nat)(env:List SV)(h:SH)(env':List SV)(h':SH):Prop :=
 okL h' env'∧OkH P h'∧Keep h h'∧(∀ i,i ∉ w->zL (qC env') i=zL (qC env) i)∧env'.length=env.length
theorem xQ.trans {w w2:List Nat}{env zEJ zEX:List SV}{h h1 h2:SH}(a:xQ P w env h zEJ h1)(b:xQ P w2 zEJ h1 zEX h2):xQ P (w++w2) env h zEX h2 :=
 ⟨b.1,b.2.1,a.2.2.1.trans b.2.2.1,fun i hi=>by
   rw[zOZ,not_or] at hi
   exact (b.2.2.2.1 i hi.2).trans (a.2.2.2.1 i hi.1),b.2.2.2.2.trans a.2.2.2.2⟩
theorem xQ.refl {env:List SV}{h:SH}(ho:OkH P h)(he:okL h env):xQ P [] env h env h:=⟨he,ho,.refl _,fun _ _=>rfl,rfl⟩
theorem xQ.up {w w2:List Nat}{zEJ:List SV}{h1:SH}(a:xQ P w env h zEJ h1)(hw:∀ i∈w,i∈w2):xQ P w2 env h zEJ h1 :=
 ⟨a.1,a.2.1,a.2.2.1,fun i hi=>a.2.2.2.1 i fun q=>hi (hw i q),a.2.2.2.2⟩
theorem rH {j:Nat}(h:i≠j):zL (qC (yT env i v)) j=zL (qC env) j:=by
 rw[kD,qZ,qF,qF,zON,if_neg h]
theorem q9U {h':SH}(hv:zL env i=some v)(hf:fzP P (qD h.l) v.enc=some (y,qD h'.l)):Wk P nm (qC env) (qD h.l) (yT (qC env) i (rt1 P ty y)) (qD h'.l):=by
 intro Z H m vs hp hr
 have hi:(qC env)[i]?=some v.enc:=by
  rw[qF] at hv;rw[zH,zN9,hv];rfl
 obtain⟨u,hu,hr2⟩:=hr.get hi;obtain⟨Z',h1,h2⟩:=qHU hp hr2 hf;exact⟨Z',m,h1.hp,(h1.vrl hr).slot hu (qDF (bQ h2 (qPB hf))),h1.step,h1.kr _⟩
theorem q3C:∀ {l:List (Nat×TypeId)} {env:List SV} {h:SH} {K:List SV->SH->zED R},OkH P h->okL h env->(fzs P l env h K).run=some r ->
 ∃ env' h',Wk P nm (qC env) (qD h.l) (qC env') (qD h'.l)∧xQ P (l.map (·.1)) env h env' h'∧(K env' h').run=some r
 | [],env,h,K,ho,he,e=>⟨env,h,.refl _ _,.refl ho he,e⟩
 | (i,ty)::l,env,h,K,ho,he,e=>by
   unfold fzs at e;split at e
   ·rename_i v t hv ht;split at e
    ·rename_i x h' hd;obtain⟨y,a1,a2,a3,a4,_⟩:=qAT ho (mE he hv) hd;have hw:=q9U (nm:=nm) (ty:=ty) hv a1;have hs:yT (qC env) i (rt1 P ty y)=qC (yT env i (t.sv x)):=by rw[kD,mZ,a2]
     rw[hs] at hw;obtain⟨env',h2,b1,b2,b3⟩:=q3C (l:=l) a4 (xH (t:=i) (v:=t.sv x) (qI a3 he) (qKQ t x)) e;refine⟨env',h2,hw.trans b1,?_,b3⟩
     have h0:xQ P [i] env h (yT env i (t.sv x)) h':=⟨xH (qI a3 he) (qKQ t x),a4,a3,fun j hj=>rH fun q=>hj (by rw[q];exact zQ1 j),jL _ _ _⟩
     exact h0.trans b2
    ·cases e
   ·cases e
omit [Yl] in
theorem Wk.zL6 {env:List PV}(i k:Nat)(el:TypeId)(hi:zL env i=some (fvv (.slice none 0 0)))(hs:szT P el=some (s+1))(hf:fresh nm k env ph=true):Wk P nm env ph (yT env i (.own k 0 0 0)) ((k,⟨el,true,[]⟩)::ph):=by
 intro Z H m zEE hp he;rw[qF] at hi;obtain⟨v,hv,hr⟩:=he.get hi;have hvn:v=.slice none 0 0:=yS hr rfl;subst hvn;obtain⟨f1,f2,f3⟩:=q7T nm hf;have hnew:own m ((k,⟨el,true,[]⟩)::ph) k=some (m k,⟨el,true,[]⟩):=by simp[own,qB]
 have hold:∀ j,j≠k->own m ((k,⟨el,true,[]⟩)::ph) j=own m ph j:=fun j hj=>by
  unfold own;rw[yJ hj]
 have hkr:KR (fun j=>j==k) (own m ph) (own m ((k,⟨el,true,[]⟩)::ph)):=fun j b ob hk=>by
  by_cases hj:j=k
  ·exact .inr (.inr (by simp[hj]))
  ·rw[hold j hj] at hk;exact .inl ⟨ob,hk,rfl,rfl,rfl⟩
 have mono:∀ {xs:List PV} {vs:List Value},VRL P Z H (own m ph) xs vs->yC k xs=true->VRL P Z H (own m ((k,⟨el,true,[]⟩)::ph)) xs vs:=fun h hn=>h.mono (fun _ h=>h) (zNV _) (fun _ _ _=>rfl) hkr fun j hj=>by
  have:j=k:=by simpa using hj
  subst this;exact hn
 have hp':Hp P Z H (own m ((k,⟨el,true,[]⟩)::ph)):=by
  refine⟨hp.zlt,fun j b ob hk=>?_,fun j j' b b' ob ob' h1 h2 r1 r2 hne=>?_,hp.gl⟩
  ·by_cases hj:j=k
   ·subst hj;rw[hnew] at hk;cases hk;exact .inl ⟨rfl,rfl⟩
   ·rw[hold j hj] at hk
    rcases hp.obj j b ob hk with h | ⟨a1,a2,a3,a4⟩
    ·exact .inl h
    ·exact .inr ⟨a1,a2,a3,a4.mono rfl fun _ a5=>mono a5 (j4 f3 (vQ hk).1)⟩
  ·by_cases hj:j=k
   ·subst hj;rw[hnew] at h1;cases h1;exact absurd ⟨rfl,rfl⟩ r1
   ·by_cases hj':j'=k
    ·subst hj';rw[hnew] at h2;cases h2;exact absurd ⟨rfl,rfl⟩ r2
    ·rw[hold j hj] at h1;rw[hold j' hj'] at h2;exact hp.inj j j' b b' ob ob' h1 h2 r1 r2 hne
 have hown:VR P Z H (own m ((k,⟨el,true,[]⟩)::ph)) (.own k 0 0 0) (.slice none 0 0):=.own rfl fun b ob hM=>by
  rw[hnew] at hM;cases hM;exact⟨s+1,hs,by omega,by simp,fun _=>.inl ⟨rfl,rfl,rfl,rfl,rfl⟩⟩
 have hst:Step Z H (own m ph) Z H (own m ((k,⟨el,true,[]⟩)::ph)):=⟨zNV _,rfl,fun _ h=>h,fun _ _ _=>rfl,fun b h _=>.inl h,fun b ⟨j,ob,h1,h2⟩ _=>by
  by_cases hj:j=k
  ·subst hj;rw[hnew] at h1;cases h1;exact absurd ⟨rfl,rfl⟩ h2
  ·rw[hold j hj] at h1;exact⟨j,ob,h1,h2⟩⟩
 have hup:KR (inP nm) (own m ph) (own m ((k,⟨el,true,[]⟩)::ph)):=hkr.up fun j hj=>by
  have e:j=k:=by simpa using hj
  rw[e];exact f1
 exact⟨Z,m,hp',(mono he f2).slot hv hown,hst,hup⟩
omit [Yl] in
theorem Wk.zKW {env:List PV}(kb i k:Nat)(el:TypeId)(hk:qB kb ph=some ob)(hsp:spec P ob.el=false)(hgr:ob.gr=false)(hi:zL ob.cs i=some (fvv (.slice none 0 0)))(hs:szT P el=some (s+1))(hf:fresh nm k env ph=true)(hne:k≠kb) :
 Wk P nm env ph env ((k,⟨el,true,[]⟩)::xY kb ⟨ob.el,false,yT ob.cs i (.own k 0 0 0)⟩ ph):=by
 intro Z H m zEE hp he;obtain⟨f1,f2,f3⟩:=q7T nm hf;generalize zL7:(k,(⟨el,true,[]⟩:PO))::xY kb ⟨ob.el,false,yT ob.cs i (.own k 0 0 0)⟩ ph=ph'
 have hM':∀ j,own m ph' j=if j=k then some (m k,⟨el,true,[]⟩) else if j=kb then some (m kb,⟨ob.el,false,yT ob.cs i (.own k 0 0 0)⟩) else own m ph j:=fun j=>by
  subst zL7;unfold own;by_cases h1:j=k
  ·subst h1;simp[qB]
  ·rw[if_neg h1,yJ h1,zF];by_cases h2:j=kb
   ·subst h2;rw[if_pos ⟨rfl,by rw[hk];rfl⟩,if_pos rfl];rfl
   ·rw[if_neg (fun h=>h2 h.1),if_neg h2]
 have hnew:own m ph' k=some (m k,⟨el,true,[]⟩):=by rw[hM',if_pos rfl]
 have zFZ:own m ph' kb=some (m kb,⟨ob.el,false,yT ob.cs i (.own k 0 0 0)⟩):=by rw[hM',if_neg hne.symm,if_pos rfl]
 have hold:∀ j,j≠k->j≠kb->own m ph' j=own m ph j:=fun j h1 h2=>by rw[hM',if_neg h1,if_neg h2]
 have hkM:own m ph kb=some (m kb,ob):=qO hk
 have hkr:KR (fun j=>j==k) (own m ph) (own m ph'):=fun j b o hj=>by
  by_cases h1:j=k
  ·exact .inr (.inr (by simp[h1]))
  ·by_cases h2:j=kb
   ·subst h2;rw[zFZ] at hj;cases hj;exact .inl ⟨ob,hkM,by simp[qZ],rfl,hgr⟩
   ·rw[hold j h1 h2] at hj;exact .inl ⟨o,hj,rfl,rfl,rfl⟩
 have mono:∀ {xs:List PV} {vs:List Value},VRL P Z H (own m ph) xs vs->yC k xs=true->VRL P Z H (own m ph') xs vs:=fun h hn=>h.mono (fun _ h=>h) (zNV _) (fun _ _ _=>rfl) hkr fun j hj=>by
  have:j=k:=by simpa using hj
  subst this;exact hn
 have hown:VR P Z H (own m ph') (.own k 0 0 0) (.slice none 0 0):=.own rfl fun b o hM=>by
  rw[hnew] at hM;cases hM;exact⟨s+1,hs,by omega,by simp,fun _=>.inl ⟨rfl,rfl,rfl,rfl,rfl⟩⟩
 have zE3:¬ (ob.gr=true∧ob.cs=[]):=fun h=>by rw[hgr] at h;cases h.1
 have hp':Hp P Z H (own m ph'):=by
  refine⟨hp.zlt,fun j b o hj=>?_,fun j j' b b' o o' h1 h2 r1 r2 hn=>?_,hp.gl⟩
  ·by_cases h1:j=k
   ·subst h1;rw[hnew] at hj;cases hj;exact .inl ⟨rfl,rfl⟩
   ·by_cases h2:j=kb
    ·subst h2;rw[zFZ] at hj;cases hj
     rcases hp.obj j _ ob hkM with h | ⟨a1,a2,a3,⟨_,vs,a4,a5,a6⟩ | ⟨hs2,_⟩⟩
     rotate_right 1
     ·rw[hsp] at hs2;cases hs2
     ·exact absurd h zE3
     ·have hv:=mono a5 (j4 f3 hk);obtain⟨v,hv1,hv2⟩:=a5.get (i:=i) (by rw[<-qF];exact hi);have:v=.slice none 0 0:=yS hv2 rfl;subst this;refine .inr ⟨a1,a2,a3,.inl ⟨hsp,vs,?_,hv.slot hv1 hown,a6⟩⟩;rw[a4,hgr]
    ·rw[hold j h1 h2] at hj
     rcases hp.obj j b o hj with h | ⟨a1,a2,a3,a4⟩
     ·exact .inl h
     ·exact .inr ⟨a1,a2,a3,a4.mono rfl fun _ a5=>mono a5 (j4 f3 (vQ hj).1)⟩
  ·have tr:∀ {j b o},own m ph' j=some (b,o)->¬ (o.gr=true∧o.cs=[])->∃ o2,own m ph j=some (b,o2)∧¬ (o2.gr=true∧o2.cs=[]):=fun {j b o} hj hr=>by
    by_cases h1:j=k
    ·subst h1;rw[hnew] at hj;cases hj;exact absurd ⟨rfl,rfl⟩ hr
    ·by_cases h2:j=kb
     ·subst h2;rw[zFZ] at hj;cases hj;exact⟨ob,hkM,zE3⟩
     ·rw[hold j h1 h2] at hj;exact⟨o,hj,hr⟩
   obtain⟨o2,q1,q2⟩:=tr h1 r1;obtain⟨o3,q3,q4⟩:=tr h2 r2;exact hp.inj j j' b b' o2 o3 q1 q3 q2 q4 hn
 have hst:Step Z H (own m ph) Z H (own m ph'):=⟨zNV _,rfl,fun _ h=>h,fun _ _ _=>rfl,fun b h _=>.inl h,fun b ⟨j,o,h1,h2⟩ _=>by
  by_cases e1:j=k
  ·subst e1;rw[hnew] at h1;cases h1;exact absurd ⟨rfl,rfl⟩ h2
  ·by_cases e2:j=kb
   ·subst e2;rw[zFZ] at h1;cases h1;exact⟨j,ob,hkM,zE3⟩
   ·rw[hold j e1 e2] at h1;exact⟨j,o,h1,h2⟩⟩
 exact⟨Z,m,hp',mono he f2,hst,hkr.up fun j hj=>by
  have e:j=k:=by simpa using hj
  rw[e];exact f1⟩
def qEH:SV->Bool
 | .c (.slice none 0 0)=>true
 | _=>false
theorem qED (e:qEH v=true):v.enc=fvv (.slice none 0 0):=by
 unfold qEH at e;split at e
 ·simp[SV.enc]
 ·cases e
def qRJ (P:Program)(nm:Nm):List (Nat×TypeId)->List SV->SH->(List SV->SH->zED R)->zED R
 | [],env,h,K=>K env h
 | (i,el)::l,env,h,K=>match zL env i with
   | some v=>cond (qEH v) (match szT P el,qDM P 8 el with
     | some (s+1),some t=>cond (Nat.beq t.w (s+1)&&qEY nm (nm.b+i) env h) (qRJ P nm l (yT env i (.own (nm.b+i) h.next 0)) (h.new (nm.b+i) fun v=>.list el true v v t []) K) .fail
     | _,_=>.fail) (qRJ P nm l env h K)
   | none=>.fail
theorem tH:∀ {l:List (Nat×TypeId)} {env:List SV} {h:SH} {K:List SV->SH->zED R},OkH P h->okL h env->(qRJ P nm l env h K).run=some r ->
 ∃ env' h',Wk P nm (qC env) (qD h.l) (qC env') (qD h'.l)∧xQ P (l.map (·.1)) env h env' h'∧(K env' h').run=some r
 | [],env,h,K,ho,he,e=>⟨env,h,.refl _ _,.refl ho he,e⟩
 | (i,el)::l,env,h,K,ho,he,e=>by
   unfold qRJ at e;split at e
   ·rename_i v hv
    cases hn:qEH v with
    | false =>
      rw[hn] at e;obtain⟨env',h2,b1,b2,b3⟩:=tH (l:=l) ho he e;exact⟨env',h2,b1,b2.up fun j hj=>zNZ _ hj,b3⟩
    | true =>
      rw[hn] at e;simp only[cond_true] at e;split at e
      ·rename_i s t hs ht;obtain⟨c,e1⟩:=qG e;rw[zNT] at c;have hw:t.w=s+1:=zNU c.1;have hn2:=xE (k:=nm.b+i) (f:=fun v=>.list el true v v t []) ho ⟨rfl,rfl,by rw[hs,hw],by omega⟩
       have hfr:fresh nm (nm.b+i) (qC env) (qD h.l)=true:=by
        have c2:=c.2;unfold qEY at c2;simp only[zNT] at c2;unfold fresh;rw[c2.1,c2.2.1,jU c2.2.2];rfl
       have hwk:Wk P nm (qC env) (qD h.l) (qC (yT env i (.own (nm.b+i) h.next 0))) (qD (h.new (nm.b+i) fun v=>.list el true v v t []).l):=by
        have:=Wk.zL6 (P:=P) (nm:=nm) (ph:=qD h.l) i (nm.b+i) el (by rw[zA,hv,zN8,qED hn]) hs hfr;rw[kD];simpa [SV.enc,SH.new,qD,SO.enc] using this
       have hok:(SV.own (nm.b+i) h.next 0).ok (h.new (nm.b+i) fun v=>.list el true v v t []):=wR (xs:=([]:List t.sem)) rfl;obtain⟨env',h2,b1,b2,b3⟩:=tH (l:=l) hn2.2 (xH (t:=i) (qI hn2.1 he) hok) e1;refine⟨env',h2,hwk.trans b1,?_,b3⟩
       have h0:xQ P [i] env h (yT env i (.own (nm.b+i) h.next 0)) (h.new (nm.b+i) fun v=>.list el true v v t []):=⟨xH (qI hn2.1 he) hok,hn2.2,hn2.1,fun j hj=>rH fun q=>hj (by rw[q];exact zQ1 j),jL _ _ _⟩
       exact h0.trans b2
      ·cases e
   ·cases e
theorem Hp.rel {Z:Nat->Prop}{H:IH}{m:Nat->Nat}{k L:Nat}(hp:Hp P Z H (own m ph))(hk:qB k ph=some ob)(h1:ob.el=1000000001)(h2:ob.gr=false)(h3:spec P 1000000001=true)(hL:qB L ph'=some ob)
 (hs:∀ j o,j≠L->qB j ph'=some o->j≠k∧qB j ph=some o∧yC L o.cs=true) :
 Hp P Z H (own (fun j=>if j=L then m k else m j) ph')∧Step Z H (own m ph) Z H (own (fun j=>if j=L then m k else m j) ph')∧KR (fun j=>j==L) (own m ph) (own (fun j=>if j=L then m k else m j) ph'):=by
 have zE3:Go.Idl.real ob:=fun h=>by rw[h2] at h;cases h.1
 have hnew:own (fun j=>if j=L then m k else m j) ph' L=some (m k,ob):=by unfold own;rw[hL];simp
 have hold:∀ {j b o},j≠L->own (fun j=>if j=L then m k else m j) ph' j=some (b,o)->j≠k∧own m ph j=some (b,o)∧yC L o.cs=true:=fun {j b o} hj h=>by
  obtain⟨a1,a2⟩:=vQ h;obtain⟨b1,b2,b3⟩:=hs j o hj a1;simp only[if_neg hj] at a2;exact⟨b1,by rw[a2];exact qO b2,b3⟩
 have hkr:KR (fun j=>j==L) (own m ph) (own (fun j=>if j=L then m k else m j) ph'):=fun j b' ob' h=>by
  by_cases hj:j=L
  ·exact .inr (.inr (by simp[hj]))
  ·exact .inl ⟨ob',(hold hj h).2.1,rfl,rfl,rfl⟩
 have hown:∀ {j b o},own (fun j=>if j=L then m k else m j) ph' j=some (b,o)->∃ j',own m ph j'=some (b,o)∧((j=L∧j'=k)∨(j≠L∧j'=j∧j≠k)):=fun {j b o} h=>by
  by_cases hj:j=L
  ·subst hj;rw[hnew] at h;cases h;exact⟨k,qO hk,.inl ⟨rfl,rfl⟩⟩
  ·exact⟨j,(hold hj h).2.1,.inr ⟨hj,rfl,(hold hj h).1⟩⟩
 refine⟨⟨hp.zlt,fun j b o hj=>?_,fun j j' b b' o o' e1 e2 r1 r2 hne=>?_,hp.gl⟩,⟨zNV _,rfl,fun _ h=>h,fun _ _ _=>rfl,fun _ h _=>.inl h,fun b ⟨j,o,hj,hr⟩ _=>?_⟩,hkr⟩
 ·by_cases hjL:j=L
  ·subst hjL;rw[hnew] at hj;cases hj
   rcases hp.obj k (m k) ob (qO hk) with q | ⟨x1,x2,x3,x4⟩
   ·exact absurd q zE3
   ·refine .inr ⟨x1,x2,x3,?_⟩
    rcases x4 with ⟨y,_⟩ | ⟨y1,y2 | ⟨q,_⟩⟩
    ·rw[h1,h3] at y;cases y
    ·exact .inr ⟨y1,.inl y2⟩
    ·rw[h1] at q;cases q
  ·obtain⟨a1,a2,a3⟩:=hold hjL hj
   rcases hp.obj j b o a2 with q | ⟨x1,x2,x3,x4⟩
   ·exact .inl q
   ·exact .inr ⟨x1,x2,x3,x4.mono rfl fun vs hv=>hv.mono (fun _ h=>h) (zNV _) (fun _ _ _=>rfl) hkr fun i hi=>by
     have:i=L:=by simpa using hi
     rw[this];exact a3⟩
 ·obtain⟨i1,q1,c1⟩:=hown e1;obtain⟨i2,q2,c2⟩:=hown e2;refine hp.inj i1 i2 b b' o o' q1 q2 r1 r2 fun e=>?_
  rcases c1 with ⟨rfl,rfl⟩ | ⟨c1,rfl,c1'⟩ <;> rcases c2 with ⟨rfl,rfl⟩ | ⟨c2,rfl,c2'⟩
  ·exact hne rfl
  ·exact c2' e.symm
  ·exact c1' e
  ·exact hne e
 ·obtain⟨i,q,_⟩:=hown hj;exact⟨i,o,q,hr⟩
omit [Yl] in
theorem qOT {j:Nat}{o:SO}:∀ {l:List (Nat×SO)},slk j l=some o->(j,o)∈l
 | (i,p)::l,h=>by
   have h:cond (j==i) (some p) (slk j l)=some o:=h
   cases hj:j==i with
   | true =>
     rw[hj] at h;cases h;have:j=i:=by simpa using hj
     subst this;simp
   | false =>
     rw[hj] at h;exact zNZ _ (qOT h)
def qYK (L:Nat)(l:List (Nat×SO)):List Nat:=(l.filter fun p=>!qDI L [p]).map (·.1)
def qUC:List Nat->List (Nat×SO)->List (Nat×SO)
 | [],l=>l
 | k::ks,l=>sdl k (qUC ks l)
omit [Yl] in
theorem bE {k:Nat}:∀ (l:List (Nat×SO)),slk k (sdl k l)=none
 | []=>rfl
 | (i,p)::l=>by
   show slk k (cond (k==i) (sdl k l) ((i,p)::sdl k l))=none
   cases h:k==i with
   | true=>exact bE l
   | false =>
     show cond (k==i) (some p) (slk k (sdl k l))=none;rw[h];exact bE l
omit [Yl] in
theorem qOK {j:Nat}{o:SO}:∀ {ls:List Nat} {l:List (Nat×SO)},slk j (qUC ls l)=some o->j ∉ ls∧slk j l=some o
 | [],l,h=>⟨by simp,h⟩
 | k::ks,l,h=>by
   have h:slk j (sdl k (qUC ks l))=some o:=h;by_cases hj:j=k
   ·subst hj;rw[bE] at h;cases h
   ·rw[kU hj] at h;obtain⟨h1,h2⟩:=qOK h;exact⟨by simp[hj,h1],h2⟩
def zBJ (P:Program)(nm:Nm)(i:Nat)(env:List SV)(h:SH)(K:List SV->SH->zED R):zED R:=match zL env i with
 | some (.mp k)=>(match slk k h.l with
   | some (.spc _ (.map es))=>cond (inP nm (nm.b+i)&&(yC (nm.b+i) (qC (yT env i .unk))&&spec P 1000000001))
      (K (yT env i (.mp (nm.b+i))) ⟨h.next+1,(nm.b+i,.spc h.next (.map es))::qUC (k::(nm.b+i)::qYK (nm.b+i) h.l) h.l⟩) .fail
   | _=>.fail)
 | _=>.fail
theorem q6Z {K:List SV->SH->zED R}(ho:OkH P h)(he:okL h env)(e:(zBJ P nm i env h K).run=some r) :
 ∃ env' h',Wk P nm (qC env) (qD h.l) (qC env') (qD h'.l)∧xQ P [i] env h env' h'∧(K env' h').run=some r:=by
 unfold zBJ at e;split at e
 case h_2=>cases e
 rename_i k hi;split at e
 case h_2=>cases e
 rename_i v es hk;obtain⟨hc,e1⟩:=qG e;simp only[zNT] at hc;obtain⟨hin,hno,hsp⟩:=hc
 have hlk:∀ {j:Nat} {o:SO},j≠nm.b+i->slk j ((nm.b+i,SO.spc h.next (.map es))::qUC (k::(nm.b+i)::qYK (nm.b+i) h.l) h.l)=some o->j≠k∧slk j h.l=some o∧yC (nm.b+i) o.enc.cs=true:=fun {j o} hj h1=>by
  rw[yB hj] at h1;obtain⟨a1,a2⟩:=qOK h1;simp only[zOF,not_or] at a1;refine⟨a1.1,a2,?_⟩;have hm:=qOT a2
  have:qDI (nm.b+i) [(j,o)]=true:=by
   cases hb:qDI (nm.b+i) [(j,o)] with
   | true=>rfl
   | false =>
     refine absurd ?_ a1.2.2;unfold qYK;exact zOJ.2 ⟨(j,o),List.mem_filter.2 ⟨hm,by rw[hb];rfl⟩,rfl⟩
  have h2:=jU this;have h2:(yC (nm.b+i) o.enc.cs&&fZ (nm.b+i) [])=true:=h2;rw[zNT] at h2;exact h2.1
 have hself:slk (nm.b+i) ((nm.b+i,SO.spc h.next (.map es))::qUC (k::(nm.b+i)::qYK (nm.b+i) h.l) h.l)=some (.spc h.next (.map es)):=by
  show cond (nm.b+i==nm.b+i) _ _=_;simp
 have kp:Keep h ⟨h.next+1,(nm.b+i,.spc h.next (.map es))::qUC (k::(nm.b+i)::qYK (nm.b+i) h.l) h.l⟩:=by
  refine⟨zRB _,fun j o hj hw=>?_,fun j el gr g w t xs hj hg=>?_⟩
  ·by_cases hjL:j=nm.b+i
   ·subst hjL;rw[hself] at hj;cases hj;exact absurd hw (zQ2 _)
   ·exact (hlk hjL hj).2.1
  ·by_cases hjL:j=nm.b+i
   ·subst hjL;rw[hself] at hj;cases hj
   ·exact⟨w,xs,(hlk hjL hj).2.1,rfl⟩
 have ok:OkH P ⟨h.next+1,(nm.b+i,.spc h.next (.map es))::qUC (k::(nm.b+i)::qYK (nm.b+i) h.l) h.l⟩:=by
  refine⟨fun j o hj=>?_,fun j el w l hj=>?_,fun j el gr g w t xs hj=>?_⟩
  ·by_cases hjL:j=nm.b+i
   ·subst hjL;rw[hself] at hj;cases hj;exact zOO _
   ·exact zPG (ho.ver j o (hlk hjL hj).2.1)
  ·by_cases hjL:j=nm.b+i
   ·subst hjL;rw[hself] at hj;cases hj
   ·exact qI kp (ho.cells j el w l (hlk hjL hj).2.1)
  ·by_cases hjL:j=nm.b+i
   ·subst hjL;rw[hself] at hj;cases hj
   ·have:=ho.list j el gr g w t xs (hlk hjL hj).2.1;exact⟨zPG this.1,this.2⟩
 refine⟨_,_,fun Z H m vs hp hv=>?_,⟨xH (qI kp he) (by simp[SV.ok]),ok,kp,fun j hj=>?_,by rw[qZ,zOY]⟩,e1⟩
 ·obtain⟨r1,r2,r3⟩:=Hp.rel (L:=nm.b+i) (ph':=qD ((nm.b+i,SO.spc h.next (.map es))::qUC (k::(nm.b+i)::qYK (nm.b+i) h.l) h.l)) (ob:=(SpO.map es).enc) hp (zP hk) rfl rfl hsp (zP hself) fun j o hj hl=>by
   rw[vH] at hl
   cases hq:slk j ((nm.b+i,SO.spc h.next (.map es))::qUC (k::(nm.b+i)::qYK (nm.b+i) h.l) h.l) with
   | none=>rw[hq] at hl;cases hl
   | some o' =>
     rw[hq] at hl;cases hl;obtain⟨a1,a2,a3⟩:=hlk hj hq;exact⟨a1,zP a2,a3⟩
  refine⟨Z,_,r1,⟨?_,fun j x u hx hu=>?_⟩,r2,r3.up fun j hj=>by
   have:j=nm.b+i:=by simpa using hj
   rw[this];exact hin⟩
  ·rw[qV,qZ,zOY,<-qV];exact hv.len
  ·rw[<-qF,zA,qZ,qF,zON] at hx;by_cases hji:i=j
   ·subst hji
    have hlt:i < env.length:=by
     rw[qF] at hi;exact (zN0.1 hi).1
    simp only[if_true,hlt,zN8,zN2] at hx;subst hx;have hv1:=hv.val i _ u (by rw[<-qF,zA,hi];rfl) hu;simp only[SV.enc] at hv1 ⊢
    cases hv1 with
    | mp g1 g2 =>
      obtain⟨_,rfl⟩:=g2 _ _ (qO (zP hk));refine q9J fun b' ob' hM=>?_
      have:own (fun j=>if j=nm.b+i then m k else m j) (qD ((nm.b+i,SO.spc h.next (.map es))::qUC (k::(nm.b+i)::qYK (nm.b+i) h.l) h.l)) (nm.b+i)=some (m k,(SpO.map es).enc):=by
       unfold own;rw[zP hself];simp[SO.enc]
      rw[this] at hM;cases hM;exact⟨rfl,rfl⟩
   ·rw[if_neg hji] at hx;have hx1:(qC env)[j]?=some x:=by rw[<-qF,zA,qF];exact hx
    refine (hv.val j x u hx1 hu).mono (fun _ h=>h) (zNV _) (fun _ _ _=>rfl) r3 fun i' hi'=>?_
    have:i'=nm.b+i:=by simpa using hi'
    rw[this];refine wF hno (i:=j) ?_;rw[<-qF,zA,qZ,qF,zON,if_neg hji];exact hx
 ·have hji:¬ i=j:=fun h=>hj (by simp[h])
  rw[zA,zA,qZ,qF,qF,zON,if_neg hji]
theorem qUY (ho:OkH P h)(he:okL h env):Wk P nm (qC env) (qD h.l) (qC (yT env i .unk)) (qD h.l)∧xQ P [i] env h (yT env i .unk) h:=by
 refine⟨Wk.drop (qO0 (by rw[qV,qV,qZ,zOY]) fun j=>?_) (qCM.refl _),xH he (by simp[SV.ok]),ho,.refl _,fun j hj=>?_,by rw[qZ,zOY]⟩
 ·rw[zA,zA,qZ,qF,qF,zON];by_cases hji:i=j
  ·subst hji;simp only[if_true];by_cases hlt:i < env.length
   ·simp only[hlt,if_true,zN8]
    right;simp[SV.enc]
   ·simp only[hlt,if_false]
    left
    rw[zO9 (by omega)]
  ·rw[if_neg hji];exact .inl rfl
 ·have hji:¬ i=j:=fun h=>hj (by simp[h])
  rw[zA,zA,qZ,qF,qF,zON,if_neg hji]
omit [Yl] in
theorem qAF {f:PHp->PV->Option (FV×PHp)}(hf:∀ ph x y ph',f ph x=some (y,ph')->qCM ph' ph):∀ {l:List PV} {ph ph':PHp} {ys:List FV},sN f l ph=some (ys,ph')->qCM ph' ph
 | [],ph,ph',ys,h=>by cases h;exact .refl _
 | x::l,ph,ph',ys,h=>by
   unfold sN at h;split at h
   ·rename_i y ph1 h1;split at h
    ·rename_i zs ph2 h2;cases h;exact fun k ob q=>hf _ _ _ _ h1 k ob (qAF hf h2 k ob q)
    ·cases h
   ·cases h
omit [Yl] in
theorem qFV:∀ (n:Nat) (ph:PHp) (x:PV) (y:FV) (ph':PHp),fz1 P n ph x=some (y,ph')->qCM ph' ph
 | 0,ph,x,y,ph',h=>by
   cases x with
   | f x =>
     have h:some (x,ph)=some (y,ph'):=h;cases h;exact .refl _
   | _ =>
     have h:(none:Option (FV×PHp))=some (y,ph'):=h;cases h
 | n+1,ph,x,y,ph',h=>by
   cases x with
   | f x =>
     have h:some (x,ph)=some (y,ph'):=h;cases h;exact .refl _
   | own k t o c =>
     unfold fz1 at h;split at h
     case h_2=>cases h
     split at h
     case h_2=>cases h
     obtain⟨_,h⟩:=nZ h;split at h
     case h_2=>cases h
     rename_i hq;cases h
     exact fun j ob q=>by
      have q1:=qAF (qFV n) hq j ob q;rw[xB] at q1;split at q1
      ·cases q1
      ·exact q1
   | asl el k t =>
     unfold fz1 at h;split at h
     case h_2=>cases h
     obtain⟨_,h⟩:=nZ h;split at h
     case h_2=>cases h
     rename_i hq;cases h
     exact fun j ob q=>by
      have q1:=qAF (qFV n) hq j ob q;rw[xB] at q1;split at q1
      ·cases q1
      ·exact q1
   | _ =>
     have h:(none:Option (FV×PHp))=some (y,ph'):=h;cases h
omit [Yl] in
theorem q5Z (h:fzP P ph x=some (y,ph')):qCM ph' ph:=by
 unfold fzP at h;split at h
 ·split at h
  ·rename_i hq;cases h;exact qAF (qFV 4) hq
  ·cases h
 ·split at h
  ·rename_i hq;cases h;exact qFV 4 _ _ _ _ hq
  ·cases h
omit [Yl] in
theorem Wk.zL8 {env:List PV}(kb i:Nat)(ty:TypeId)(hk':qB kb ph'=some ob)(hsp:spec P ob.el=false)(hgr:ob.gr=false)(hi:zL ob.cs i=some x)(hf:fzP P ph x=some (y,ph'))(hk:qB kb ph=some ob) :
 Wk P nm env ph env (xY kb ⟨ob.el,false,yT ob.cs i (rt1 P ty y)⟩ ph'):=by
 intro Z H m zEE hp he;have hkM:own m ph kb=some (m kb,ob):=qO hk;have zE3:¬ (ob.gr=true∧ob.cs=[]):=fun h=>by rw[hgr] at h;cases h.1
 rcases hp.obj kb _ ob hkM with h | ⟨_,_,_,⟨_,vs0,a40,a50,_⟩ | ⟨hs2,_⟩⟩
 rotate_right 1
 ·rw[hsp] at hs2;cases hs2
 ·exact absurd h zE3
 obtain⟨v,hv1,hv2⟩:=a50.get (i:=i) (by rw[<-qF];exact hi);obtain⟨Z',fz,hy⟩:=qHU hp hv2 hf;have hyr:∀ M,VR P Z' H M (rt1 P ty y) v:=fun M=>qDF (bQ hy (qPB hf))
 have hp1:=fz.hp;have zIU:own m ph' kb=some (m kb,ob):=qO hk';generalize zL9:xY kb (⟨ob.el,false,yT ob.cs i (rt1 P ty y)⟩:PO) ph'=ph2
 have hM':∀ j,own m ph2 j=if j=kb then some (m kb,⟨ob.el,false,yT ob.cs i (rt1 P ty y)⟩) else own m ph' j:=fun j=>by
  subst zL9;unfold own;rw[zF];by_cases h2:j=kb
  ·subst h2;rw[if_pos ⟨rfl,by rw[hk'];rfl⟩,if_pos rfl];rfl
  ·rw[if_neg (fun h=>h2 h.1),if_neg h2]
 have zFZ:own m ph2 kb=some (m kb,⟨ob.el,false,yT ob.cs i (rt1 P ty y)⟩):=by rw[hM',if_pos rfl]
 have hold:∀ j,j≠kb->own m ph2 j=own m ph' j:=fun j h2=>by rw[hM',if_neg h2]
 have hkr:∀ p,KR p (own m ph') (own m ph2):=fun p j b o hj=>by
  by_cases h2:j=kb
  ·subst h2;rw[zFZ] at hj;cases hj;exact .inl ⟨ob,zIU,by simp[qZ],rfl,hgr⟩
  ·rw[hold j h2] at hj;exact .inl ⟨o,hj,rfl,rfl,rfl⟩
 have mono:∀ {xs:List PV} {vs:List Value},VRL P Z' H (own m ph') xs vs->VRL P Z' H (own m ph2) xs vs:=fun h=>h.mono (fun _ h=>h) (zNV _) (fun _ _ _=>rfl) (hkr fun _=>false) fun j hj=>by cases hj
 have hp':Hp P Z' H (own m ph2):=by
  refine⟨hp1.zlt,fun j b o hj=>?_,fun j j' b b' o o' h1 h2 r1 r2 hn=>?_,hp1.gl⟩
  ·by_cases h2:j=kb
   ·subst h2;rw[zFZ] at hj;cases hj
    rcases hp1.obj j _ ob zIU with h | ⟨a1,a2,a3,⟨_,vs,a4,a5,a6⟩ | ⟨hs2,_⟩⟩
    rotate_right 1
    ·rw[hsp] at hs2;cases hs2
    ·exact absurd h zE3
    ·have hv:=mono a5
     have hvv:vs=vs0:=by
      rw[a40] at a4;injection a4 with e1;injection e1 with e2;injection e2 with e3;exact e3.symm
     subst hvv;refine .inr ⟨a1,a2,a3,.inl ⟨hsp,vs,?_,hv.slot hv1 (hyr _),a6⟩⟩;rw[a4,hgr]
   ·rw[hold j h2] at hj
    rcases hp1.obj j b o hj with h | ⟨a1,a2,a3,a4⟩
    ·exact .inl h
    ·exact .inr ⟨a1,a2,a3,a4.mono rfl fun _ a5=>mono a5⟩
  ·have tr:∀ {j b o},own m ph2 j=some (b,o)->¬ (o.gr=true∧o.cs=[])->∃ o2,own m ph' j=some (b,o2)∧¬ (o2.gr=true∧o2.cs=[]):=fun {j b o} hj hr=>by
    by_cases h2:j=kb
    ·subst h2;rw[zFZ] at hj;cases hj;exact⟨ob,zIU,zE3⟩
    ·rw[hold j h2] at hj;exact⟨o,hj,hr⟩
   obtain⟨o2,q1,q2⟩:=tr h1 r1;obtain⟨o3,q3,q4⟩:=tr h2 r2;exact hp1.inj j j' b b' o2 o3 q1 q3 q2 q4 hn
 have hst:Step Z' H (own m ph') Z' H (own m ph2):=⟨zNV _,rfl,fun _ h=>h,fun _ _ _=>rfl,fun b h _=>.inl h,fun b ⟨j,o,h1,h2⟩ _=>by
  by_cases e2:j=kb
  ·subst e2;rw[zFZ] at h1;cases h1;exact⟨j,ob,zIU,zE3⟩
  ·rw[hold j e2] at h1;exact⟨j,o,h1,h2⟩⟩
 exact⟨Z',m,hp',mono (fz.vrl he),fz.step.trans hst,(fz.kr _).trans (hkr _)⟩
def bxI (env:List SV)(i:Nat):Option Nat:=cond (Nat.ble 1000000000000000 i) (some (i - 1000000000000000)) (match zL env i with
 | some (.ref kb _ _)=>some kb
 | _=>none)
def q7U (P:Program)(i c:Nat)(ty:TypeId)(env:List SV)(h:SH)(K:List SV->SH->zED R):zED R:=match bxI env i,qDM P 8 ty with
 | some kb,some t=>(match slk kb h.l with
   | some (.cells _ _ cs)=>(match zL cs c with
     | some v=>(match q6H P ty t v h with
       | some (x,h')=>(match slk kb h'.l with
         | some (.cells e _ cs')=>cond (!spec P e) (K env (h'.put kb fun v=>.cells e v (yT cs' c (t.sv x)))) .fail
         | _=>.fail)
       | none=>.fail)
     | none=>.fail)
   | _=>.fail)
 | _,_=>.fail
theorem qXH {K:List SV->SH->zED R}(ho:OkH P h)(he:okL h env)(e:(q7U P i c ty env h K).run=some r) :
 ∃ env' h',Wk P nm (qC env) (qD h.l) (qC env') (qD h'.l)∧xQ P [i] env h env' h'∧(K env' h').run=some r:=by
 unfold q7U at e;split at e
 case h_2=>cases e
 rename_i kb t hi ht;split at e
 case h_2=>cases e
 rename_i eb wb cs hkb;split at e
 case h_2=>cases e
 rename_i v hv;split at e
 case h_2=>cases e
 rename_i x h' hd;split at e
 case h_2=>cases e
 rename_i e2 w2 cs2 hkb2;obtain⟨hc,e1⟩:=qG e;have hvk:v.ok h:=mE (ho.cells _ _ _ _ hkb) hv;obtain⟨y,a1,a2,a3,a4,_⟩:=qAT ho hvk hd;have hsp:spec P e2=false:=by simpa using hc
 have hp2:=vL (k:=kb) (f:=fun v=>.cells e2 v (yT cs2 c (t.sv x))) a4 hkb2 ⟨rfl,xH (a4.cells _ _ _ _ hkb2) (qKQ t x)⟩;have hk2:=zP hkb2;have hk1:=zP hkb;have hsub:=q5Z a1 kb _ hk2
 have hcs:qC cs2=qC cs:=by
  rw[hk1] at hsub;injection hsub with q;injection q with q1 q2 q3;exact q3.symm
 refine⟨env,h'.put kb fun v=>.cells e2 v (yT cs2 c (t.sv x)),?_,⟨qI hp2.1 (qI a3 he),hp2.2,a3.trans hp2.1,fun _ _=>rfl,rfl⟩,e1⟩
 have:=Wk.zL8 (P:=P) (nm:=nm) (env:=qC env) kb c ty hk2 hsp rfl (x:=v.enc) (by
  show zL (qC cs2) c=_
  rw[hcs,zA,hv];rfl) a1 hsub
 refine this.trans ?_
 have he2:xY kb ⟨(SO.cells e2 w2 cs2).enc.el,false,yT (SO.cells e2 w2 cs2).enc.cs c (rt1 P ty y)⟩ (qD h'.l)=qD ((h'.put kb fun v=>.cells e2 v (yT cs2 c (t.sv x))).l):=by
  show _=qD (sst kb _ h'.l);rw[xW];simp[SO.enc,kD,mZ,a2]
 rw[he2];exact .refl _ _
def zBH (i:Nat)(env:List SV)(h:SH)(K:List SV->SH->zED R):zED R:=match zL env i with
 | some (.d (.list el (.int k)) xs)=>.ite (List.isEmpty xs) .fail (K (yT env i (.d (.ol el k) xs)) h)
 | _=>.fail
theorem q4E {K:List SV->SH->zED R}(ho:OkH P h)(he:okL h env)(e:(zBH i env h K).run=some r) :
 ∃ env' h',Wk P nm (qC env) (qD h.l) (qC env') (qD h'.l)∧xQ P [i] env h env' h'∧(K env' h').run=some r:=by
 unfold zBH at e;split at e
 ·rename_i el k xs hi
  rcases run_ite e with ⟨_,e1⟩ | ⟨hx,e1⟩
  ·cases e1
  ·refine⟨_,h,?_,⟨xH he (by simp[SV.ok]),ho,.refl _,fun j hj=>rH fun q=>hj (by rw[q];exact zQ1 j),jL _ _ _⟩,e1⟩
   have:qC (yT env i (.d (.ol el k) xs))=qC env:=by
    rw[kD]
    have h2:(SV.d (.ol el k) xs).enc=(SV.d (.list el (.int k)) xs).enc:=by
     cases xs with
     | nil=>cases hx
     | cons x xs=>simp[SV.enc,Ty.fv,fvo,Ty.cells]
    rw[h2,qZ]
    have h3:(qC env)[i]?=some (SV.d (.list el (.int k)) xs).enc:=by
     rw[<-qF,zA,hi];rfl
    obtain⟨h4,h5⟩:=zN0.1 h3;rw[<-h5,List.set_getElem_self]
   rw[this];exact .refl _ _
 ·cases e
omit [Yl] in
theorem Wk.ext {pe:List PV}{a b:PHp}(h:∀ l,qB l b=qB l a):Wk P nm pe a pe b:=fun Z H m vs hp hv=>by
 have e:own m b=own m a:=qA5 h;exact⟨Z,m,by rw[e];exact hp,by rw[e];exact hv,by rw[e];exact .refl _ _ _,by rw[e];exact .refl _ _⟩
def olV (P:Program)(ty:TypeId):SV->Option (Option Bool×SV)
 | .d (.list el (.int k)) xs=>some (some (List.isEmpty xs),.d (.ol el k) xs)
 | .c (.slice none 0 0)=>(match zDK P ty with
   | some (.ol el k)=>some (none,.d (.ol el k) [])
   | _=>none)
 | .d (.ol el k) xs=>some (none,.d (.ol el k) xs)
 | _=>none
theorem q7D {x:SV}{b:Option Bool}(e:olV P ty v=some (b,x))(hb:b≠some true):x.enc=v.enc∧∀ h,x.ok h:=by
 unfold olV at e;split at e
 ·rename_i el k xs;cases e;refine⟨?_,fun h=>by simp[SV.ok]⟩
  cases xs with
  | nil=>exact absurd rfl hb
  | cons x xs=>simp[SV.enc,Ty.fv,fvo,Ty.cells]
 ·split at e
  ·cases e;exact⟨by simp[SV.enc,Ty.fv,fvo,fvv],fun h=>by simp[SV.ok]⟩
  ·cases e
 ·cases e;exact⟨rfl,fun h=>by simp[SV.ok]⟩
 ·cases e
def q8L (P:Program)(i c:Nat)(ty:TypeId)(env:List SV)(h:SH)(K:List SV->SH->zED R):zED R:=match bxI env i with
 | some kb=>(match slk kb h.l with
   | some (.cells el _ cs)=>(match zL cs c with
     | some v=>(match olV P ty v with
       | some (some b,x)=>.ite b .fail (K env (h.put kb fun u=>.cells el u (yT cs c x)))
       | some (none,x)=>K env (h.put kb fun u=>.cells el u (yT cs c x))
       | none=>.fail)
     | none=>.fail)
   | _=>.fail)
 | _=>.fail
theorem qYB {K:List SV->SH->zED R}(ho:OkH P h)(he:okL h env)(e:(q8L P i c ty env h K).run=some r) :
 ∃ env' h',Wk P nm (qC env) (qD h.l) (qC env') (qD h'.l)∧xQ P [i] env h env' h'∧(K env' h').run=some r:=by
 unfold q8L at e;split at e
 case h_2=>cases e
 rename_i kb hi;split at e
 case h_2=>cases e
 rename_i el w0 cs hk;split at e
 case h_2=>cases e
 rename_i v hv
 have fin:∀ {b:Option Bool} {x:SV},olV P ty v=some (b,x)->b≠some true->(K env (h.put kb fun u=>.cells el u (yT cs c x))).run=some r->∃ env' h',Wk P nm (qC env) (qD h.l) (qC env') (qD h'.l)∧xQ P [i] env h env' h'∧(K env' h').run=some r:=fun {b x} hx hb e=>by
  obtain⟨h1,h2⟩:=q7D hx hb;have hp:=vL (k:=kb) (f:=fun u=>.cells el u (yT cs c x)) ho hk ⟨rfl,xH (ho.cells _ _ _ _ hk) (h2 h)⟩;refine⟨env,_,Wk.ext fun l=>?_,⟨qI hp.1 he,hp.2,hp.1,fun _ _=>rfl,rfl⟩,e⟩;show qB l (qD (sst kb _ h.l))=_;rw[xW,zF];split
  ·rename_i q;rw[q.1,zP hk];show some (⟨el,false,qC (yT cs c x)⟩:PO)=some ⟨el,false,qC cs⟩;rw[kD,h1,qZ];have h3:(qC cs)[c]?=some v.enc:=by rw[<-qF,zA,hv];rfl
   obtain⟨h4,h5⟩:=zN0.1 h3;rw[<-h5,List.set_getElem_self]
  ·rfl
 split at e
 ·rename_i b x hx
  rcases run_ite e with ⟨_,e1⟩ | ⟨hb,e1⟩
  ·cases e1
  ·exact fin hx (by rw[hb];simp) e1
 ·rename_i x hx;exact fin hx (by simp) e
 ·cases e
def q2M (i c:Nat)(env:List SV)(h:SH):Bool:=match bxI env i with
 | some kb=>(match slk kb h.l with
   | some (.cells _ _ cs)=>(match zL cs c with
     | some (.own _ _ _)=>true
     | some (.sl _ _ _ _ _)=>true
     | _=>false)
   | _=>false)
 | none=>false
def zA6 (P:Program)(i c:Nat)(ty:TypeId)(env:List SV)(h:SH)(K:List SV->SH->zED R):zED R:=cond (q2M i c env h) (q7U P i c ty env h fun env h=>q8L P i c ty env h K) (q8L P i c ty env h K)
theorem q5H {K:List SV->SH->zED R}(ho:OkH P h)(he:okL h env)(e:(zA6 P i c ty env h K).run=some r) :
 ∃ env' h',Wk P nm (qC env) (qD h.l) (qC env') (qD h'.l)∧xQ P [i] env h env' h'∧(K env' h').run=some r:=by
 unfold zA6 at e
 cases hb:q2M i c env h with
 | true =>
   rw[hb] at e;obtain⟨zEJ,h1,a,b,e1⟩:=qXH (nm:=nm) ho he (show (q7U P i c ty env h fun env h=>q8L P i c ty env h K).run=some r from e);obtain⟨zEX,h2,a2,b2,e2⟩:=qYB (nm:=nm) b.2.1 b.1 e1;exact⟨zEX,h2,a.trans a2,(b.trans b2).up fun i hi=>by simpa using hi,e2⟩
 | false =>
   rw[hb] at e;exact qYB ho he e
def qA6 (P:Program)(nm:Nm):List (Nat×Nat×TypeId×Nat)->List SV->SH->(List SV->SH->zED R)->zED R
 | [],env,h,K=>K env h
 | (kb,i,el,k)::l,env,h,K=>match slk kb h.l with
   | some (.cells e _ cs)=>(match zL cs i with
     | some v=>cond (qEH v) (match szT P el,qDM P 8 el with
       | some (s+1),some t=>cond (Nat.beq t.w (s+1)&&(qEY nm k env h&&(!Nat.beq k kb&&!spec P e))) (qA6 P nm l env ((h.new k fun v=>.list el true v v t []).put kb fun v=>.cells e v (yT cs i (.own k h.next 0))) K) .fail
       | _,_=>.fail) (qA6 P nm l env h K)
     | none=>.fail)
   | _=>.fail
theorem oU:∀ {l:List (Nat×Nat×TypeId×Nat)} {env:List SV} {h:SH} {K:List SV->SH->zED R},OkH P h->okL h env->(qA6 P nm l env h K).run=some r ->
 ∃ h',Wk P nm (qC env) (qD h.l) (qC env) (qD h'.l)∧Keep h h'∧OkH P h'∧(K env h').run=some r
 | [],env,h,K,ho,he,e=>⟨h,.refl _ _,.refl _,ho,e⟩
 | (kb,i,el,k)::l,env,h,K,ho,he,e=>by
   unfold qA6 at e;split at e
   case h_2=>cases e
   rename_i eb wb cs hkb;split at e
   case h_2=>cases e
   rename_i v hv
   cases hn:qEH v with
   | false =>
     rw[hn] at e;exact oU (l:=l) ho he e
   | true =>
     rw[hn] at e;simp only[cond_true] at e;split at e
     case h_2=>cases e
     rename_i s t hs ht;obtain⟨c,e1⟩:=qG e;simp only[zNT] at c;have hw:t.w=s+1:=zNU c.1
     have hne:k≠kb:=fun q=>by
      have:=c.2.2.1;rw[q,aA] at this;cases this
     have hsp:spec P eb=false:=by simpa using c.2.2.2
     have hn2:=xE (k:=k) (f:=fun v=>.list el true v v t []) ho ⟨rfl,rfl,by rw[hs,hw],by omega⟩;have hok:(SV.own k h.next 0).ok (h.new k fun v=>.list el true v v t []):=wR (xs:=([]:List t.sem)) rfl
     have zMA:slk kb (h.new k fun v=>.list el true v v t []).l=some (.cells eb wb cs):=by
      rw[show slk kb (h.new k fun v=>.list el true v v t []).l=slk kb h.l from yB hne.symm];exact hkb
     have hcs:okL (h.new k fun v=>.list el true v v t []) cs:=qI hn2.1 (ho.cells _ _ _ _ hkb);have hp2:=vL (k:=kb) (f:=fun v=>.cells eb v (yT cs i (.own k h.next 0))) hn2.2 zMA ⟨rfl,xH hcs hok⟩
     have hfr:fresh nm k (qC env) (qD h.l)=true:=by
      have c2:=c.2.1;unfold qEY at c2;simp only[zNT] at c2;unfold fresh;rw[c2.1,c2.2.1,jU c2.2.2];rfl
     obtain⟨h',b1,b2,b3,b4⟩:=oU (l:=l) hp2.2 (qI hp2.1 (qI hn2.1 he)) e1;refine⟨h',?_,hn2.1.trans (hp2.1.trans b2),b3,b4⟩;have hk:=zP hkb
     have:=Wk.zKW (P:=P) (nm:=nm) (env:=qC env) kb i k el hk hsp rfl (by
      show zL (qC cs) i=_
      rw[zA,hv,zN8,qED hn]) hs hfr hne
     refine Wk.trans this ?_
     have he2:(k,(⟨el,true,[]⟩:PO))::xY kb ⟨(SO.cells eb wb cs).enc.el,false,yT (SO.cells eb wb cs).enc.cs i (.own k 0 0 0)⟩ (qD h.l)=qD (((h.new k fun v=>.list el true v v t []).put kb fun v=>.cells eb v (yT cs i (.own k h.next 0))).l):=by
      show _=qD (sst kb _ ((k,_)::h.l));have:(kb==k)=false:=by simpa using hne.symm
      show _=qD (cond (kb==k) _ ((k,_)::sst kb _ h.l));rw[this];show _=(k,_)::qD (sst kb _ h.l);rw[xW];simp[SO.enc,kD,SV.enc]
     rw[he2];exact b1
def unB (c:Nat):Nat×Nat×TypeId×Nat:=((c / 1000000) % 10000000,(c / 100000) % 10,c % 100000,c / 10000000000000)
def fzv (P:Program)(nm:Nm):List (Nat×TypeId)->List SV->SH->(List SV->SH->zED R)->zED R
 | [],env,h,K=>K env h
 | (i,ty)::l,env,h,K=>cond (Nat.ble 2000000000 ty) (cond (Nat.ble 3000000000 ty) (cond (Nat.ble 4000000000 ty) (cond (Nat.ble 5000000000 ty) (cond (Nat.ble 6000000000 ty) (cond (Nat.ble 7000000000000 ty) (qA6 P nm [unB (ty - 7000000000000)] env h fun env h=>fzv P nm l env h K) (zA6 P i ((ty - 6000000000) / 100000) ((ty - 6000000000) % 100000) env h fun env h=>fzv P nm l env h K)) (zBH i env h fun env h=>fzv P nm l env h K)) (q7U P i ((ty - 4000000000) / 100000) ((ty - 4000000000) % 100000) env h fun env h=>fzv P nm l env h K)) (fzv P nm l (yT env i .unk) h K)) (zBJ P nm i env h fun env h=>fzv P nm l env h K)) <| cond (Nat.ble 1000000000 ty) (qRJ P nm [(i,ty - 1000000000)] env h fun env h=>fzv P nm l env h K) (fzs P [(i,ty)] env h fun env h=>fzv P nm l env h K)
theorem qPV:∀ {l:List (Nat×TypeId)} {env:List SV} {h:SH} {K:List SV->SH->zED R},OkH P h->okL h env->(fzv P nm l env h K).run=some r ->
 ∃ env' h',Wk P nm (qC env) (qD h.l) (qC env') (qD h'.l)∧xQ P (l.map (·.1)) env h env' h'∧(K env' h').run=some r
 | [],env,h,K,ho,he,e=>⟨env,h,.refl _ _,.refl ho he,e⟩
 | (i,ty)::l,env,h,K,ho,he,e=>by
   unfold fzv at e
   have go:∀ {zEJ h1},Wk P nm (qC env) (qD h.l) (qC zEJ) (qD h1.l)->xQ P [i] env h zEJ h1->(fzv P nm l zEJ h1 K).run=some r->∃ env' h',Wk P nm (qC env) (qD h.l) (qC env') (qD h'.l)∧xQ P (((i,ty)::l).map (·.1)) env h env' h'∧(K env' h').run=some r:=fun a b e=>by
    obtain⟨env',h',c1,c2,c3⟩:=qPV (l:=l) b.2.1 b.1 e;exact⟨env',h',a.trans c1,b.trans c2,c3⟩
   cases hb2:Nat.ble 2000000000 ty with
   | true =>
     rw[hb2] at e
     cases hb3:Nat.ble 3000000000 ty with
     | true =>
       rw[hb3] at e
       cases hb4:Nat.ble 4000000000 ty with
       | true =>
         rw[hb4] at e
         cases hb5:Nat.ble 5000000000 ty with
         | true =>
           rw[hb5] at e
           cases hb6:Nat.ble 6000000000 ty with
           | true =>
             rw[hb6] at e
             cases hb7:Nat.ble 7000000000000 ty with
             | true =>
               rw[hb7] at e;have e:(qA6 P nm [unB (ty - 7000000000000)] env h fun env h=>fzv P nm l env h K).run=some r:=e;obtain⟨h1,a,b,c,e1⟩:=oU (nm:=nm) ho he e;exact go a ⟨qI b he,c,b,fun _ _=>rfl,rfl⟩ e1
             | false =>
               rw[hb7] at e;have e:(zA6 P i ((ty - 6000000000) / 100000) ((ty - 6000000000) % 100000) env h fun env h=>fzv P nm l env h K).run=some r:=e;obtain⟨zEJ,h1,a,b,e1⟩:=q5H (nm:=nm) ho he e;exact go a b e1
           | false =>
             rw[hb6] at e;have e:(zBH i env h fun env h=>fzv P nm l env h K).run=some r:=e;obtain⟨zEJ,h1,a,b,e1⟩:=q4E (nm:=nm) ho he e;exact go a b e1
         | false =>
         rw[hb5] at e;have e:(q7U P i ((ty - 4000000000) / 100000) ((ty - 4000000000) % 100000) env h fun env h=>fzv P nm l env h K).run=some r:=e;obtain⟨zEJ,h1,a,b,e1⟩:=qXH (nm:=nm) ho he e;exact go a b e1
       | false =>
         rw[hb4] at e;obtain⟨a,b⟩:=qUY (nm:=nm) (i:=i) ho he;exact go a b e
     | false =>
       rw[hb3] at e;have e:(zBJ P nm i env h fun env h=>fzv P nm l env h K).run=some r:=e;obtain⟨zEJ,h1,a,b,e1⟩:=q6Z (nm:=nm) ho he e;exact go a b e1
   | false =>
   rw[hb2] at e
   cases hb:Nat.ble 1000000000 ty with
   | true =>
     rw[hb] at e;obtain⟨zEJ,h1,a,b,e1⟩:=tH (nm:=nm) ho he e;exact go a b e1
   | false =>
     rw[hb] at e;obtain⟨zEJ,h1,a,b,e1⟩:=q3C (nm:=nm) ho he e;exact go a b e1
def qFC (P:Program):List Nat->SH->SH
 | [],h=>h
 | kb::l,h=>match slk kb h.l with
   | some (.cells el _ cs)=>(match qDM P 8 el with
     | some t=>(match t.zG2 cs with
       | some x=>qFC P l (h.put kb fun v=>.cells el v (t.svs x))
       | none=>qFC P l h)
     | none=>qFC P l h)
   | _=>qFC P l h
theorem nD:∀ {bs:List Nat} {h:SH},OkH P h->Keep h (qFC P bs h)∧OkH P (qFC P bs h)∧∀ l,qB l (qD (qFC P bs h).l)=qB l (qD h.l)
 | [],h,ho=>⟨.refl _,ho,fun _=>rfl⟩
 | kb::bs,h,ho=>by
   unfold qFC;split
   ·rename_i el w cs hk;split
    ·rename_i t ht;split
     ·rename_i x hx;have hp:=vL (k:=kb) (f:=fun v=>.cells el v (t.svs x)) ho hk ⟨rfl,qEL t x⟩;obtain⟨a1,a2,a3⟩:=nD (bs:=bs) hp.2;refine⟨hp.1.trans a1,a2,fun l=>(a3 l).trans ?_⟩;show qB l (qD (sst kb _ h.l))=_;rw[xW,zF];split
      ·rename_i e;rw[e.1,zP hk];show some (⟨el,false,qC (t.svs x)⟩:PO)=some ⟨el,false,qC cs⟩;rw[gW,nL hx]
      ·rfl
     ·exact nD (bs:=bs) ho
    ·exact nD (bs:=bs) ho
   ·exact nD (bs:=bs) ho
def qWQ (P:Program)(nm:Nm)(bs:List Nat)(bv:List (Nat×Nat×TypeId×Nat))(env:List SV)(h:SH)(K:List SV->SH->zED R):zED R:=qA6 P nm bv env h fun env h=>K env (qFC P bs h)
theorem qKU {bs:List Nat}{l:List (Nat×Nat×TypeId×Nat)}{K:List SV->SH->zED R}(ho:OkH P h)(he:okL h env)(e:(qWQ P nm bs l env h K).run=some r) :
 ∃ h',Wk P nm (qC env) (qD h.l) (qC env) (qD h'.l)∧Keep h h'∧OkH P h'∧(K env h').run=some r:=by
 obtain⟨h',a1,a2,a3,a4⟩:=oU (nm:=nm) ho he e;obtain⟨b1,b2,b3⟩:=nD (bs:=bs) a3;exact⟨_,a1.trans (.ext b3),a2.trans b1,b2,a4⟩
end
end Go.Sv
namespace Go.Sv
open Go.Idl
noncomputable section
variable [Gc]
variable [Yl]
variable {P:Program}{R:Type}{r:R}{nm:Nm}
def zDS:SV->Option Ty
 | .d t _=>cond t.one (some t) none
 | .c (.int k _)=>some (.int k)
 | .c (.bool _)=>some .bool
 | .c (.string _)=>some .str
 | _=>none
def tyV:SV->Option Ty
 | .agg l=>tyL (l.map zDS)
 | v=>zDS v
def zCL:List SV->Option (List Ty)
 | []=>some []
 | v::l=>match tyV v,zCL l with
   | some t,some ts=>some (t::ts)
   | _,_=>none
def zA4 (t:Ty)(v:SV):Option t.sem:=cond t.one (t.zIS v) (match v with
 | .agg l=>t.zG2 l
 | _=>none)
theorem qOA {t:Ty}{v:SV}{x:t.sem}(e:zA4 t v=some x):v.enc=t.pv x:=by
 unfold zA4 at e;unfold Ty.pv
 cases ht:t.one with
 | true=>rw[ht] at e;exact (tZ e).1
 | false =>
   rw[ht] at e;simp only[cond_false] at e ⊢;split at e
   ·simp only[SV.enc,nL e]
   ·cases e
def sW:(ts:List Ty)->List SV->Option (TyL ts)
 | [],[]=>some ()
 | [t],[v]=>zA4 t v
 | t::u::ts,v::vs=>match zA4 t v with
   | some x=>(match sW (u::ts) vs with
     | some y=>some (x,y)
     | none=>none)
   | none=>none
 | _,_=>none
theorem bB:∀ {ts:List Ty} {l:List SV} {s:TyL ts},sW ts l=some s->qC l=qC (svL ts s)
 | [],[],s,e=>by simp[svL]
 | [t],[v],s,e=>by
   unfold sW at e;simp only[svL,qC,mZ,qOA e]
 | t::u::ts,v::vs,s,e=>by
   unfold sW at e;split at e
   ·rename_i x hx;split at e
    ·rename_i y hy;cases e;have ih:=bB hy;show qC (v::vs)=qC (t.sv x::svL (u::ts) y);simp only[qC,mZ,qOA hx,ih]
    ·cases e
   ·cases e
 | [],_::_,_,e=>by cases e
 | t::ts,[],_,e=>by cases ts <;> (unfold sW at e;cases e)
 | [_],_::_::_,_,e=>by unfold sW at e;cases e
def qHJ:List Nat->List SV->Option (List SV)
 | [],_=>some []
 | i::is,env=>match zL env i,qHJ is env with
   | some v,some l=>some (v::l)
   | _,_=>none
def spD:SpO->Option SV
 | .map es=>some (.d .raw es)
 | .iter s pos=>some (.agg [.d .str s,.d (.int .i64) (pos:Int)])
 | .mit _ _ _ _ _=>none
 | .arr el k xs=>cond (Nat.beq el 1000000001) none (some (.d (.list el (.int k)) xs))
def obD:SO->Option (SV×Bool)
 | .list el gr _ _ u xs=>cond (Nat.beq el 1000000001) none (some (.d (.list el u) xs,gr))
 | .spc _ x=>(spD x).map fun v=>(v,false)
 | .cells _ _ _=>none
def qSU:List Nat->SH->Option (List SV)
 | [],_=>some []
 | k::ks,h=>match slk k h.l,qSU ks h with
   | some ob,some l=>(match obD ob with
     | some p=>some (p.1::l)
     | none=>none)
   | _,_=>none
def q4S:List Nat->SH->Option (List (Nat×Bool))
 | [],_=>some []
 | k::ks,h=>match slk k h.l,q4S ks h with
   | some ob,some l=>(match obD ob with
     | some p=>some ((k,p.2)::l)
     | none=>none)
   | _,_=>none
def mY (i:Nat):List Nat->Bool
 | []=>false
 | j::l=>cond (Nat.beq i j) true (mY i l)
omit [Yl] in
theorem xM {i:Nat}:∀ {l:List Nat},mY i l=true ↔ i∈l
 | []=>by simp[mY]
 | j::l=>by
   unfold mY;rw[zOF]
   cases h:Nat.beq i j with
   | true=>simp[zNU h]
   | false =>
     have:i≠j:=fun e=>by subst e;rw[aA] at h;cases h
     simp only[cond_false,xM (l:=l),this,false_or]
def blank (W:List Nat):Nat->List SV->List SV
 | _,[]=>[]
 | i,x::l=>cond (mY i W) .unk x::blank W (i+1) l
omit [Yl] in
theorem qB8 (W:List Nat):∀ (i:Nat) (l:List SV),(blank W i l).length=l.length
 | _,[]=>rfl
 | i,x::l=>by simp[blank,qB8 W (i+1) l]
omit [Yl] in
theorem qAI (W:List Nat):∀ (i j:Nat) (l:List SV),zL (blank W i l) j=(zL l j).map fun x=>cond (mY (i+j) W) SV.unk x
 | _,_,[]=>rfl
 | i,0,x::l=>rfl
 | i,j+1,x::l=>by
   show zL (blank W (i+1) l) j=(zL l j).map _;rw[qAI W (i+1) j l,zPQ,zQM 1 j]
omit [Yl] in
theorem qPU {h:SH}{W:List Nat}:∀ {i:Nat} {l:List SV},okL h l->okL h (blank W i l)
 | _,[],_=>by simp[blank,okL]
 | i,x::l,hl=>by
   simp only[okL] at hl;show okL h (cond (mY i W) .unk x::blank W (i+1) l);simp only[okL];refine⟨?_,qPU hl.2⟩;cases mY i W
   ·exact hl.1
   ·simp[SV.ok]
def dI:List Nat->List SV->List SV->List SV×List SV
 | [],l,env=>(env,l)
 | i::is,c::l,env=>dI is l (yT env i c)
 | _::_,[],env=>(env,[])
def zAG (el:TypeId):(u:Ty)->List u.sem->Bool->Option (Nat->SO)
 | .int k,xs,false=>cond (Nat.beq el 1000000001) none (some fun v=>.spc v (.arr el k xs))
 | _,_,_=>none
omit [Yl] in
theorem qKD {el:TypeId}:∀ {u:Ty} {xs:List u.sem} {gr:Bool} {f:Nat->SO},zAG el u xs gr=some f->∃ k,∃ ys:List Int,(∀ v,f v=.spc v (.arr el k ys))∧gr=false∧Nat.beq el 1000000001=false∧(⟨u,xs⟩:(u:Ty)×List u.sem)=⟨.int k,ys⟩
 | .int k,xs,false,f,e=>by
   have e:cond (Nat.beq el 1000000001) none (some fun v=>SO.spc v (.arr el k xs))=some f:=e
   cases hc:Nat.beq el 1000000001 with
   | true=>rw[hc] at e;cases e
   | false =>
     rw[hc] at e;cases e;exact⟨k,xs,fun v=>rfl,rfl,rfl,rfl⟩
 | .int k,xs,true,f,e=>by cases e
 | .bool,_,_,_,e=>by cases e
 | .str,_,_,_,e=>by cases e
 | .raw,_,_,_,e=>by cases e
 | .nif,_,_,_,e=>by cases e
 | .unit,_,_,_,e=>by cases e
 | .ol _ _,_,_,_,e=>by cases e
 | .list _ _,_,_,_,e=>by cases e
 | .pair _ _,_,_,_,e=>by cases e
def q7Q (P:Program)(gr:Bool):SV->Option (Nat->SO)
 | .d (.list el u) xs=>(match szT P el with
   | some n=>cond (Nat.beq n u.w&&(Nat.ble 1 n&&!Nat.beq el 1000000001)) (some fun v=>.list el gr v v u xs) (zAG el u xs gr)
   | none=>none)
 | .d .raw es=>some fun v=>.spc v (.map es)
 | .agg [.d .str s,.d (.int .i64) p]=>some fun v=>.spc v (.iter s (Int.toNat p))
 | _=>none
def q5C (P:Program):List (Nat×Bool)->List SV->SH->Option SH
 | [],[]=>fun h=>some h
 | (k,gr)::ks,c::l=>fun h=>(match q7Q P gr c with
   | some f=>q5C P ks l ((h.del k).new k f)
   | none=>none)
 | _,_=>fun _=>none
def mkM:Nat:=1000000000000000
def q3G:List (Nat×Nat)->SH->List SV->Option (List SV)
 | [],_,env=>some env
 | (i,k)::l,h,env=>cond (Nat.ble mkM k) (q3G l h (yT env i (.mp (k - mkM)))) (match slk k h.l with
   | some (.list _ _ g _ _ xs)=>q3G l h (yT env i (.own k g (List.length xs)))
   | _=>none)
def q89 (j:Nat):Bool:=Nat.beq j 1000000000
def zBT (k w:Nat):SV->Option Bool
 | .ref k' off w'=>cond (Nat.beq k k'&&(Nat.beq off 0&&Nat.beq w w')) (some true) none
 | .c (.pointer none)=>some false
 | .opt b k' off w'=>cond (Nat.beq k k'&&(Nat.beq off 0&&Nat.beq w w')) (some b) none
 | _=>none
theorem qZJ {k w:Nat}{v:SV}{b:Bool}(e:zBT k w v=some b):v.enc=(SV.opt b k 0 w).enc:=by
 have eqs:∀ {k' off w':Nat} {x y:Option Bool},cond (Nat.beq k k'&&(Nat.beq off 0&&Nat.beq w w')) x none=y->y≠none->k=k'∧off=0∧w=w'∧x=y:=fun {k' off w' x y} h hy=>by
  cases hc:(Nat.beq k k'&&(Nat.beq off 0&&Nat.beq w w')) with
  | false=>rw[hc] at h;exact absurd h.symm hy
  | true =>
    rw[hc] at h;simp only[zNT] at hc;exact⟨zNU hc.1,zNU hc.2.1,zNU hc.2.2,h⟩
 unfold zBT at e;split at e
 ·obtain⟨rfl,rfl,rfl,h⟩:=eqs e (by simp);cases h;simp[SV.enc]
 ·cases e;simp[SV.enc]
 ·obtain⟨rfl,rfl,rfl,h⟩:=eqs e (by simp);cases h;simp[SV.enc]
 ·cases e
def qSP:Nat:=2000000000000000
def q2O (k:Nat):Nat:=cond (Nat.ble qSP k) (k - qSP) k
def q8F:SV->Option Nat
 | .own _ _ n=>some n
 | .sl _ _ _ o m=>cond (Nat.beq o 0) (some m) none
 | _=>none
def qYI (k w:Nat):List (Option Nat)->List SV->Option (List SV)
 | [],[]=>some []
 | none::ds,v::l=>(match qYI k w ds l with
   | some r=>some (v::r)
   | none=>none)
 | some j::ds,v::l=>cond (q89 j) (match zBT k w v,qYI k w ds l with
   | some b,some r=>some (.d .bool b::r)
   | _,_=>none) (cond (Nat.ble qSP j) (match q8F v,qYI k w ds l with
   | some m,some r=>some (.d (.int .i64) (m:Int)::r)
   | _,_=>none) (qYI k w ds l))
 | _,_=>none
def qC1 (k:Nat)(v:SV)(h:SH):Bool:=match v with
 | .own k' g _=>Nat.beq k' k&&(match slk k' h.l with
   | some (.list _ _ g' _ _ _)=>Nat.beq g g'
   | _=>false)
 | _=>false
def q34 (k:Nat)(v:SV)(h:SH):Bool:=match v with
 | .own k' g n=>qC1 k (.own k' g n) h
 | .sl k' g n _ _=>qC1 k (.own k' g n) h
 | _=>false
def q3M:List (Option Nat)->List SV->SH->Bool
 | some k::ds,v::l,h=>cond (q89 k) true (cond (Nat.ble qSP k) (q34 (k - qSP) v h) (qC1 k v h))&&q3M ds l h
 | none::ds,_::l,h=>q3M ds l h
 | _,_,_=>true
def mkB (kb w:Nat):List (Option Nat)->List SV->SH->Option (List SV×List SV)
 | [],l,_=>some ([],l)
 | none::ds,c::l,h=>(match mkB kb w ds l h with
   | some p=>some (c::p.1,p.2)
   | none=>none)
 | some k::ds,l,h=>cond (q89 k) (match l with
   | c::l'=>(match asB c,mkB kb w ds l' h with
     | some b,some p=>some (.opt b kb 0 w::p.1,p.2)
     | _,_=>none)
   | []=>none) (cond (Nat.ble qSP k) (match l with
   | c::l'=>(match asI c,slk (k - qSP) h.l,mkB kb w ds l' h with
     | some (.i64,m),some (.list _ _ g _ _ xs),some p=>some (.sl (k - qSP) g (List.length xs) 0 (Nat.min (Int.toNat m) (List.length xs))::p.1,p.2)
     | _,_,_=>none)
   | []=>none) (match slk k h.l with
   | some (.list _ _ g _ _ xs)=>(match mkB kb w ds l h with
     | some p=>some (.own k g (List.length xs)::p.1,p.2)
     | none=>none)
   | _=>none))
 | none::_,[],_=>none
def q75 (h1:SH):List (Nat×List (Option Nat))->List SV->SH->Option SH
 | [],_,h=>some h
 | (k,ds)::bs,l,h=>match slk k h1.l with
   | some (.cells el _ _)=>(match mkB k (List.length ds) ds l h with
     | some p=>q75 h1 bs p.2 ((h.del k).new k fun v=>.cells el v p.1)
     | none=>none)
   | _=>none
def qYQ:List (Nat×List (Option Nat))->SH->Option (List SV)
 | [],_=>some []
 | (k,ds)::bs,h=>match slk k h.l with
   | some (.cells _ _ l)=>(match qYI k (List.length ds) ds l,qYQ bs h with
     | some a,some b=>some (a++b)
     | _,_=>none)
   | _=>none
def mP (L:List Nat)(bs:List (Nat×List (Option Nat)))(h1 h:SH):Bool:=bs.all fun p=>mY p.1 L&&((p.2.all fun x=>match x with
 | some k=>!mY (q2O k) L
 | none=>true)&&(match slk p.1 h1.l,slk p.1 h.l with
 | some (.cells e1 _ _),some (.cells e2 _ l)=>Nat.beq e1 e2&&q3M p.2 l h
 | _,_=>false))
def mkS (P:Program)(W:List Nat)(sh:Sh)(ts:List Ty)(os:List (Nat×Bool))(env:List SV)(h:SH)(s:TyL ts):Option (List SV×SH) :=
 match q5C P os ((dI sh.d (svL ts s) (blank W 0 env)).2.take os.length) h with
 | some h2=>(match q75 h sh.b ((dI sh.d (svL ts s) (blank W 0 env)).2.drop os.length) h2 with
   | some h3=>(match q3G sh.s h3 (dI sh.d (svL ts s) (blank W 0 env)).1 with
     | some e2=>some (e2,h3)
     | none=>none)
   | none=>none)
 | none=>none
omit [Yl] in
theorem qGL {l m:List PV}{i:Nat}{x:PV}(h:WkP l m)(hx:zL l i=some x):WkP l (yT m i x):=by
 rw[qZ];rw[qF] at hx
 have hl:l.length=(m.set i x).length:=by
  rw[zOY];clear hx
  induction h with
  | nil=>rfl
  | same _ ih=>simp[ih]
  | any _ ih=>simp[ih]
 have hp:∀ j:Nat,m[j]?=l[j]?∨m[j]?=some PV.unk:=by
  clear hx hl
  induction h with
  | nil=>intro j;exact .inl rfl
  | same _ ih=>intro j;cases j with
    | zero=>exact .inl rfl
    | succ j=>exact ih j
  | any _ ih=>intro j;cases j with
    | zero=>exact .inr rfl
    | succ j=>exact ih j
 refine qO0 hl fun j=>?_
 rw[qF,qF,zON];by_cases e:i=j
 ·subst e;rw[if_pos rfl];split
  ·exact .inl hx.symm
  ·rename_i hlt;have hlt':i < l.length:=(zN0.1 hx).1;rw[hl,zOY] at hlt';exact absurd hlt' hlt
 ·rw[if_neg e];exact hp j
theorem qNT:∀ {is:List Nat} {env l b m rest:List SV},qHJ is env=some l->qC (l++b)=qC m->WkP (qC env) (qC rest)->WkP (qC env) (qC (dI is m rest).1)∧qC (dI is m rest).2=qC b
 | [],env,l,b,m,rest,e,hm,hw=>by
   cases e;exact⟨hw,hm.symm⟩
 | i::is,env,l,b,m,rest,e,hm,hw=>by
   unfold qHJ at e;split at e
   ·rename_i v l' hv hl';cases e
    cases m with
    | nil=>simp[qC] at hm
    | cons c m =>
      simp only[zPX,qC,zOQ] at hm;show WkP (qC env) (qC (dI is m (yT rest i c)).1)∧qC (dI is m (yT rest i c)).2=qC b;refine qNT hl' hm.2 ?_;rw[kD,<-hm.1];exact qGL hw (by rw[zA,hv];rfl)
   ·cases e
omit [Yl] in
theorem qFH:∀ (is:List Nat) (l env:List SV),(dI is l env).1.length=env.length
 | [],l,env=>rfl
 | i::is,[],env=>rfl
 | i::is,c::l,env=>by
   show (dI is l (yT env i c)).1.length=_;rw[qFH is l,jL]
omit [Yl] in
theorem qNK {h:SH}:∀ {is:List Nat} {l env:List SV},okL h l->okL h env->okL h (dI is l env).1
 | [],l,env,_,he=>he
 | i::is,[],env,_,he=>he
 | i::is,c::l,env,hl,he=>by
   simp only[okL] at hl;show okL h (dI is l (yT env i c)).1;exact qNK hl.2 (xH he hl.1)
omit [Yl] in
theorem qHE:∀ {is:List Nat} {l env:List SV} {j:Nat},j ∉ is->zL (dI is l env).1 j=zL env j
 | [],l,env,j,_=>rfl
 | i::is,[],env,j,_=>rfl
 | i::is,c::l,env,j,hj=>by
   rw[zOF,not_or] at hj;show zL (dI is l (yT env i c)).1 j=_;rw[qHE hj.2,qZ,qF,qF,zON,if_neg (fun e=>hj.1 e.symm)]
omit [Yl] in
theorem qJ8 {k:Nat}{gr:Bool}{ks:List (Nat×Bool)}{c:SV}{l:List SV}{h h2:SH}(e:q5C P ((k,gr)::ks) (c::l) h=some h2) :
 ∃ f,q7Q P gr c=some f∧q5C P ks l ((h.del k).new k f)=some h2:=by
 unfold q5C at e;split at e
 ·rename_i f hf;exact⟨f,hf,e⟩
 ·cases e
omit [Yl] in
theorem qZ9 {gr:Bool}{c:SV}{f:Nat->SO}(e:q7Q P gr c=some f)(h:SH)(n:Nat):q8J P h n (f n):=by
 unfold q7Q at e;split at e
 ·rename_i el u xs;split at e
  ·rename_i m hm
   cases hc:(Nat.beq m u.w&&(Nat.ble 1 m&&!Nat.beq el 1000000001)) with
   | false =>
     rw[hc] at e;obtain⟨k,ys,h1,_⟩:=qKD e;rw[h1];rfl
   | true =>
     rw[hc] at e;cases e;simp only[zNT] at hc;have hw:m=u.w:=zNU hc.1;have h1:=zN3 hc.2.1;exact⟨rfl,rfl,by rw[hm,hw],by omega⟩
  ·cases e
 ·cases e;rfl
 ·cases e;rfl
 ·cases e
omit [Yl] in
theorem qMF:∀ {os:List (Nat×Bool)} {l:List SV} {h h2:SH},OkH P h->q5C P os l h=some h2->Keep h h2∧OkH P h2∧∀ k,k ∉ os.map (·.1)->slk k h2.l=slk k h.l
 | [],[],h,h2,ho,e=>by cases e;exact⟨.refl _,ho,fun _ _=>rfl⟩
 | (k,gr)::ks,c::l,h,h2,ho,e=>by
   obtain⟨f,hf,e1⟩:=qJ8 e;have hd:=gZ (k:=k) ho;have hn2:=xE (h:=h.del k) (k:=k) (f:=f) hd.2 (qZ9 hf _ _);obtain⟨a1,a2,a3⟩:=qMF hn2.2 e1;refine⟨hd.1.trans (hn2.1.trans a1),a2,fun j hj=>?_⟩;rw[zOC,zOF,not_or] at hj;rw[a3 j hj.2];show slk j ((k,_)::(h.del k).l)=_;rw[yB hj.1];exact kU hj.1 _
 | [],_::_,_,_,_,e=>by cases e
 | _::_,[],_,_,_,e=>by cases e
def qZC:List FV->List (Value×Value)
 | .v k::.v x::l=>(k,x)::qZC l
 | _=>[]
omit [Yl] in
theorem qGO:∀ (es:List (Value×Value)),qZC (dR es)=es
 | []=>rfl
 | p::es=>by
   show (p.1,p.2)::qZC (dR es)=_;rw[qGO es]
def obE (gr:Bool):PV->Option PO
 | .f (.l el _ cs)=>cond (Nat.beq el 1000000001) (some (SpO.map (qZC cs)).enc) (some ⟨el,gr,cs.map .f⟩)
 | .agg [.f (.v (.string s)),.f (.v (.int _ p))]=>some (SpO.iter s p.toNat).enc
 | _=>none
theorem q96 {gr:Bool}{c:SV}{f:Nat->SO}(e:q7Q P gr c=some f)(n:Nat):obE gr c.enc=some (f n).enc:=by
 unfold q7Q at e;split at e
 ·rename_i el u xs;split at e
  ·rename_i m hm
   cases hc:(Nat.beq m u.w&&(Nat.ble 1 m&&!Nat.beq el 1000000001)) with
   | false =>
     rw[hc] at e;obtain⟨k,ys,h1,rfl,h2,h3⟩:=qKD e;cases h3;rw[h1];simp only[SV.enc,Ty.fv,obE,h2,cond_false];show some (PO.mk el false ((List.flatMap (Ty.int k).cells ys).map .f))=some ⟨el,false,ys.map fun x=>fvv (.int k x)⟩;rw[q1F,zP2];rfl
   | true =>
     rw[hc] at e;cases e;simp only[zNT,zOE] at hc;simp only[SV.enc,Ty.fv,obE,hc.2.2,cond_false];rfl
  ·cases e
 ·rename_i es;cases e;simp only[SV.enc,Ty.fv,obE];show cond (Nat.beq 1000000001 1000000001) _ _=_;rw[qGO];rfl
 ·cases e;simp only[SV.enc,qC,Ty.fv,obE];rfl
 ·cases e
theorem zCR {ob:SO}{p:SV×Bool}(e:obD ob=some p):obE p.2 p.1.enc=some ob.enc:=by
 unfold obD at e;split at e
 ·rename_i el gr g w u xs
  cases hc:Nat.beq el 1000000001 with
  | true=>rw[hc] at e;cases e
  | false =>
    rw[hc] at e;cases e;simp only[SV.enc,Ty.fv,obE,hc,cond_false];rfl
 ·rename_i w x
  cases x with
  | map es =>
    cases e;simp only[SV.enc,Ty.fv,obE];show cond (Nat.beq 1000000001 1000000001) _ _=_;rw[qGO];rfl
  | iter s pos =>
    cases e;simp only[SV.enc,qC,Ty.fv,obE];rfl
  | mit t j si la seen=>cases e
  | arr el ik xs =>
    have e:(cond (Nat.beq el 1000000001) none (some (SV.d (.list el (.int ik)) xs))).map (fun v=>(v,false))=some p:=e
    cases hc:Nat.beq el 1000000001 with
    | true=>rw[hc] at e;cases e
    | false =>
      rw[hc] at e;cases e;simp only[SV.enc,Ty.fv,obE,hc,cond_false];show some (PO.mk el false ((List.flatMap (Ty.int ik).cells xs).map .f))=some ⟨el,false,xs.map fun x=>fvv (.int ik x)⟩;rw[q1F,zP2];rfl
 ·cases e
theorem qPL {q:PHp}{B:Nat->Prop}:∀ {os:List (Nat×Bool)} {l:List SV} {h h2:SH},q5C P os l h=some h2->(∀ k o,¬ B k->k ∉ os.map (·.1)->slk k h.l=some o->qB k q=some o.enc) ->
 (∀ (i:Nat) k gr c,os[i]?=some (k,gr)->l[i]?=some c->qB k q=obE gr c.enc)->∀ k o,¬ B k->slk k h2.l=some o->qB k q=some o.enc
 | [],[],h,h2,e,h0,_,k,o,hB,hk=>by
   cases e;exact h0 k o hB (by simp) hk
 | (j,gr)::ks,c::l,h,h2,e,h0,h1,k,o,hB,hk=>by
   obtain⟨f,hf,e1⟩:=qJ8 e;refine qPL (q:=q) (B:=B) e1 (fun k2 o2 hB2 hk2 ho2=>?_) (fun i k2 gr2 c2 a1 a2=>h1 (i+1) k2 gr2 c2 (by simpa using a1) (by simpa using a2)) k o hB hk;by_cases hj:k2=j
   ·subst hj;rw[show slk k2 ((h.del k2).new k2 f).l=some (f (h.del k2).next) from jB] at ho2;cases ho2;rw[h1 0 k2 gr c rfl rfl];exact q96 hf _
   ·rw[show slk k2 ((h.del j).new j f).l=slk k2 (h.del j).l from yB hj,show slk k2 (h.del j).l=slk k2 h.l from kU hj _] at ho2;exact h0 k2 o2 hB2 (by rw[zOC,zOF,not_or];exact⟨hj,hk2⟩) ho2
 | [],_::_,_,_,e,_,_,_,_,_,_=>by cases e
 | _::_,[],_,_,e,_,_,_,_,_,_=>by cases e
omit [Yl] in
theorem qB6 {h:SH}:∀ {is:List Nat} {l env:List SV},okL h l->okL h (dI is l env).2
 | [],l,env,hl=>hl
 | i::is,[],env,_=>by simp[dI,okL]
 | i::is,c::l,env,hl=>by
   simp only[okL] at hl;show okL h (dI is l (yT env i c)).2;exact qB6 hl.2
omit [Yl] in
theorem qP2 {h:SH}{l:List SV}(n:Nat)(hl:okL h l):okL h (l.drop n):=zM.2 fun x hx=>zM.1 hl x (zQW hx)
theorem qWO (l:List SV)(n:Nat):qC (l.take n)=(qC l).take n:=by rw[zH,zH,zPZ]
theorem qUM (l:List SV)(n:Nat):qC (l.drop n)=(qC l).drop n:=by rw[zH,zH,zP6]
omit [Yl] in
theorem qL9 {h:SH}(ho:OkH P h):∀ {l:List (Nat×Nat)} {env e2:List SV},okL h env->q3G l h env=some e2->okL h e2∧e2.length=env.length∧∀ j,j ∉ l.map (·.1)->zL e2 j=zL env j
 | [],env,e2,he,e=>by cases e;exact⟨he,rfl,fun _ _=>rfl⟩
 | (i,k)::l,env,e2,he,e=>by
   unfold q3G at e
   cases hmk:Nat.ble mkM k with
   | true =>
     rw[hmk] at e;simp only[cond_true] at e;obtain⟨a1,a2,a3⟩:=qL9 ho (xH (t:=i) he (v:=.mp (k - mkM)) (by simp[SV.ok])) e;refine⟨a1,a2.trans (jL _ _ _),fun j hj=>?_⟩;rw[zOC,zOF,not_or] at hj;rw[a3 j hj.2,qZ,qF,qF,zON,if_neg (fun e=>hj.1 e.symm)]
   | false =>
   rw[hmk] at e;simp only[cond_false] at e;split at e
   ·rename_i el gr g w u xs hk;have hg:=(ho.list _ _ _ _ _ _ _ hk).1
    have hok:(SV.own k g (List.length xs)).ok h:=by
     simp only[SV.ok];exact⟨hg,fun el2 gr2 w2 t2 xs2 hk2=>by rw[hk] at hk2;cases hk2;rfl⟩
    obtain⟨a1,a2,a3⟩:=qL9 ho (xH (t:=i) he hok) e;refine⟨a1,a2.trans (jL _ _ _),fun j hj=>?_⟩;rw[zOC,zOF,not_or] at hj;rw[a3 j hj.2,qZ,qF,qF,zON,if_neg (fun e=>hj.1 e.symm)]
   ·cases e
omit [Yl] in
theorem qDN {kb w:Nat}{h:SH}(ho:OkH P h):∀ {ds:List (Option Nat)} {l:List SV} {p:List SV×List SV},okL h l->mkB kb w ds l h=some p->okL h p.1∧okL h p.2
 | [],l,p,hl,e=>by cases e;exact⟨by simp[okL],hl⟩
 | none::ds,c::l,p,hl,e=>by
   unfold mkB at e;simp only[okL] at hl;split at e
   ·rename_i q hq;cases e;have ih:=qDN ho hl.2 hq;exact⟨by simp only[okL];exact⟨hl.1,ih.1⟩,ih.2⟩
   ·cases e
 | some k::ds,l,p,hl,e=>by
   unfold mkB at e
   cases hm:q89 k with
   | true =>
     rw[hm] at e;simp only[cond_true] at e;split at e
     ·simp only[okL] at hl;split at e
      ·rename_i b q hb hq;cases e;have ih:=qDN ho hl.2 hq;exact⟨by simp only[okL];exact⟨by simp[SV.ok],ih.1⟩,ih.2⟩
      ·cases e
     ·cases e
   | false =>
   rw[hm] at e;simp only[cond_false] at e
   cases hpt:Nat.ble qSP k with
   | true =>
     rw[hpt] at e;simp only[cond_true] at e;split at e
     ·simp only[okL] at hl;split at e
      ·rename_i m el gr g w u xs q hi hk hq;cases e;have ih:=qDN ho hl.2 hq;have hg:=(ho.list _ _ _ _ _ _ _ hk).1;refine⟨?_,ih.2⟩;simp only[okL,SV.ok];exact⟨⟨⟨hg,fun el2 gr2 w2 t2 xs2 hk2=>by rw[hk] at hk2;cases hk2;rfl⟩,by rw[zOR];exact Nat.min_le_right _ _⟩,ih.1⟩
      ·cases e
     ·cases e
   | false =>
   rw[hpt] at e;simp only[cond_false] at e;split at e
   ·rename_i el gr g w u xs hk;split at e
    ·rename_i q hq;cases e;have ih:=qDN ho hl hq;have hg:=(ho.list _ _ _ _ _ _ _ hk).1;refine⟨?_,ih.2⟩;simp only[okL,SV.ok];exact⟨⟨hg,fun el2 gr2 w2 t2 xs2 hk2=>by rw[hk] at hk2;cases hk2;rfl⟩,ih.1⟩
    ·cases e
   ·cases e
 | none::_,[],_,_,e=>by cases e
omit [Yl] in
theorem qLS {h1:SH}:∀ {bs:List (Nat×List (Option Nat))} {l:List SV} {h h2:SH},OkH P h->okL h l->q75 h1 bs l h=some h2->Keep h h2∧OkH P h2∧∀ k,k ∉ bs.map (·.1)->slk k h2.l=slk k h.l
 | [],l,h,h2,ho,hl,e=>by cases e;exact⟨.refl _,ho,fun _ _=>rfl⟩
 | (k,ds)::bs,l,h,h2,ho,hl,e=>by
   unfold q75 at e;split at e
   ·rename_i el w0 l0 hk0;split at e
    ·rename_i p hp;obtain⟨m1,m2⟩:=qDN ho hl hp;have hd:=gZ (k:=k) ho;have hn2:=xE (h:=h.del k) (k:=k) (f:=fun v=>.cells el v p.1) hd.2 ⟨rfl,qI hd.1 m1⟩;obtain⟨a1,a2,a3⟩:=qLS hn2.2 (qI hn2.1 (qI hd.1 m2)) e;refine⟨hd.1.trans (hn2.1.trans a1),a2,fun j hj=>?_⟩;rw[zOC,zOF,not_or] at hj;rw[a3 j hj.2];show slk j ((k,_)::(h.del k).l)=_;rw[yB hj.1];exact kU hj.1 _
    ·cases e
   ·cases e
theorem qFN {h h2:SH}(ho:OkH P h)(ho2:OkH P h2){k:Nat}{v:SV}{el:TypeId}{gr:Bool}{g w:Nat}{u:Ty}{xs:List u.sem}(hv:v.ok h)(c:qC1 k v h=true)(hk:slk k h2.l=some (.list el gr g w u xs))(h1:qB k (qD h.l)=some (SO.list el gr g w u xs).enc) :
 v.enc=(SV.own k g xs.length).enc:=by
 unfold qC1 at c;split at c
 ·rename_i k' g' n';rw[zNT] at c;have hkk:k'=k:=zNU c.1;subst hkk;have c2:=c.2;split at c2
  ·rename_i el3 gr3 g3 w3 u3 xs3 hk3;have hg:g'=g3:=zNU c2;subst hg;simp only[SV.ok] at hv;have hn:=hv.2 _ _ _ _ _ hk3;rw[zP hk3] at h1;have h1:=zOP h1;have e1:el3=el:=congrArg PO.el h1
   have e2':xs3.length*u3.w=xs.length*u.w:=by
    have:=congrArg (fun o:PO=>o.cs.length) h1;simp only[qY] at this;exact this
   have l1:=ho.list _ _ _ _ _ _ _ hk3;have l2:=ho2.list _ _ _ _ _ _ _ hk
   have hww:u3.w=u.w:=by
    have a1:=l1.2.1;have a2:=l2.2.1;rw[e1,a2] at a1;exact (zOP a1).symm
   have hlen:xs3.length=xs.length:=by
    rw[hww] at e2';exact Nat.eq_of_mul_eq_mul_right l2.2.2 e2'
   simp only[SV.enc,hn,hlen]
  ·cases c2
 ·cases c
theorem qA4 {kb w:Nat}{hn h:SH}(hon:OkH P hn)(ho:OkH P h):∀ {ds:List (Option Nat)} {l ln dl rest:List SV} {p:List SV×List SV},mkB kb w ds l h=some p->qYI kb w ds ln=some dl->q3M ds ln hn=true->qC (dl++rest)=qC l->okL hn ln ->
 (∀ k o,some k∈ds->slk (q2O k) h.l=some o->qB (q2O k) (qD hn.l)=some o.enc)->qC p.1=qC ln∧qC p.2=qC rest
 | [],l,ln,dl,rest,p,e,ec,eo,hl,hok,hq=>by
   cases e
   cases ln with
   | nil=>cases ec;exact⟨rfl,hl.symm⟩
   | cons _ _=>cases ec
 | none::ds,c::l,ln,dl,rest,p,e,ec,eo,hl,hok,hq=>by
   unfold mkB at e;split at e
   ·rename_i q hm;cases e
    cases ln with
    | nil=>cases ec
    | cons v ln =>
      unfold qYI at ec;split at ec
      ·rename_i r hr;cases ec;simp only[zPX,qC,zOQ] at hl;simp only[okL] at hok;obtain⟨a1,a2⟩:=qA4 hon ho hm hr (by unfold q3M at eo;exact eo) hl.2 hok.2 fun k o hk ho=>hq k o (zNZ _ hk) ho
       exact⟨by simp only[qC,a1,hl.1],a2⟩
      ·cases ec
   ·cases e
 | some k::ds,l,ln,dl,rest,p,e,ec,eo,hl,hok,hq=>by
   unfold mkB at e
   cases hmk:q89 k with
   | true =>
     rw[hmk] at e;simp only[cond_true] at e;split at e
     case h_2=>cases e
     rename_i c l';split at e
     case h_2=>cases e
     rename_i b q hb hm;cases e
     cases ln with
     | nil=>cases ec
     | cons v ln =>
       unfold qYI at ec;rw[hmk] at ec;simp only[cond_true] at ec;split at ec
       case h_2=>cases ec
       rename_i b2 r hb2 hr;cases ec;simp only[okL] at hok;unfold q3M at eo;rw[zNT] at eo;simp only[zPX,qC,zOQ] at hl;obtain⟨a1,a2⟩:=qA4 hon ho hm hr eo.2 hl.2 hok.2 fun k o hk ho=>hq k o (zNZ _ hk) ho
       refine⟨?_,a2⟩
       have hbb:b2=b:=by
        have:=hl.1;rw[pY hb] at this;simp only[SV.enc,Ty.fv,fvv] at this;injection this with this;injection this with this;injection this
       simp only[qC,a1,qZJ hb2,hbb]
   | false =>
   rw[hmk] at e;simp only[cond_false] at e
   cases hpt:Nat.ble qSP k with
   | true =>
     have hun:q2O k=k - qSP:=by unfold q2O;rw[hpt,cond_true]
     rw[hpt] at e;simp only[cond_true] at e;split at e
     case h_2=>cases e
     rename_i c l';split at e
     case h_2=>cases e
     rename_i m el gr g w u xs q hi hk hm;cases e
     cases ln with
     | nil=>cases ec
     | cons v ln =>
       unfold qYI at ec;rw[hmk,hpt] at ec;simp only[cond_true,cond_false] at ec;split at ec
       case h_2=>cases ec
       rename_i m2 r hm2 hr;cases ec;simp only[okL] at hok;unfold q3M at eo;rw[hmk,hpt,zNT] at eo;simp only[cond_true,cond_false] at eo;simp only[zPX,qC,zOQ] at hl;obtain⟨a1,a2⟩:=qA4 hon ho hm hr eo.2 hl.2 hok.2 fun k o hk ho=>hq k o (zNZ _ hk) ho
       refine⟨?_,a2⟩
       have hmm:(m2:Int)=m:=by
        have:=hl.1;rw[yI hi] at this;simp only[SV.enc,Ty.fv,fvv] at this;injection this with this;injection this with this;injection this
       have hpl:=hq k _ zN1 (by rw[hun];exact hk);rw[hun] at hpl;simp only[qC,a1]
       congr 1
       have fin:∀ {k' g' n':Nat},qVT hn k' g' n'->qC1 (k - qSP) (.own k' g' n') hn=true->m2<=n'->(SV.sl (k - qSP) g xs.length 0 (Nat.min m.toNat xs.length)).enc=PV.own k' n' 0 m2:=fun {k' g' n'} h1 h2 h3=>by
        have:=qFN hon ho (v:=.own k' g' n') (by simp only[SV.ok];exact h1) h2 hk hpl;simp only[SV.enc] at this;injection this with b1 b2 b3 b4
        have hmin:Nat.min m.toNat xs.length=m2:=by
         rw[<-hmm,zPU];exact zPK (by omega)
        simp only[SV.enc,hmin,b1,b2]
       have e1:=eo.1;have o1:=hok.1;unfold q34 at e1;unfold q8F at hm2;split at e1
       ·cases hm2;simp only[SV.ok] at o1;rw[fin o1 e1 (zNV _)];simp only[SV.enc]
       ·rename_i k' g' n' o' m'
        cases h0:Nat.beq o' 0 with
        | false=>simp only[h0,cond_false] at hm2;cases hm2
        | true =>
          simp only[h0,cond_true] at hm2;cases hm2;have h0:=zNU h0;subst h0;simp only[SV.ok] at o1;rw[fin o1.1 e1 (by omega)];simp only[SV.enc]
       ·cases e1
   | false =>
   have hun:q2O k=k:=by unfold q2O;rw[hpt,cond_false]
   rw[hpt] at e;simp only[cond_false] at e;split at e
   ·rename_i el gr g w u xs hk;split at e
    ·rename_i q hm;cases e
     cases ln with
     | nil=>cases ec
     | cons v ln =>
       unfold qYI at ec;rw[hmk,hpt] at ec;simp only[cond_false] at ec;simp only[okL] at hok;unfold q3M at eo;rw[hmk,hpt,zNT] at eo;simp only[cond_false] at eo;obtain⟨a1,a2⟩:=qA4 hon ho hm ec eo.2 hl hok.2 fun k o hk ho=>hq k o (zNZ _ hk) ho
       refine⟨?_,a2⟩;simp only[qC,a1];rw[qFN hon ho hok.1 eo.1 hk (by have:=hq k _ zN1 (by rw[hun];exact hk);rw[hun] at this;exact this)]
    ·cases e
   ·cases e
 | none::_,[],_,_,_,_,e,_,_,_,_,_=>by cases e
theorem qOH {hn h1:SH}{L:List Nat}(hon:OkH P hn):∀ {bs:List (Nat×List (Option Nat))} {l c rest:List SV} {h h2:SH},OkH P h->okL h l->q75 h1 bs l h=some h2->qYQ bs hn=some c->qC (c++rest)=qC l->mP L bs h1 hn=true ->
 (∀ k o,slk k h.l=some o->k ∉ bs.map (·.1)->qB k (qD hn.l)=some o.enc)->(∀ k o,slk k h.l=some o->k ∉ L->qB k (qD hn.l)=some o.enc)->∀ k o,slk k h2.l=some o->qB k (qD hn.l)=some o.enc
 | [],l,c,rest,h,h2,ho,hl,e,ec,hc,hb,hq,_,k,o,hk=>by
   cases e;exact hq k o hk (by simp)
 | (j,ds)::bs,l,c,rest,h,h2,ho,hl,e,ec,hc,hb,hq,hqL,k,o,hk=>by
   unfold mP at hb;rw[zO7,zNT,zNT,zNT] at hb;obtain⟨⟨b0,b1,b2⟩,b3⟩:=hb;unfold q75 at e;split at e
   case h_2=>cases e
   rename_i el w0 l0 hk0;split at e
   case h_2=>cases e
   rename_i p hp;rw[hk0] at b2;simp only at b2;unfold qYQ at ec;split at ec
   case h_2=>cases ec
   rename_i el2 w2 ln hkn;rw[hkn] at b2;simp only[zNT] at b2;split at ec
   case h_2=>cases ec
   rename_i a b ha hb2;cases ec;have hel:el=el2:=zNU b2.1;subst hel;obtain⟨m1,m2⟩:=qDN ho hl hp
   obtain⟨q1,q2⟩:=qA4 hon ho hp ha b2.2 (rest:=b++rest) (by rw[<-zOT];exact hc) (hon.cells _ _ _ _ hkn) (fun k o hk ho2=>hqL (q2O k) o ho2 fun hm=>by
    have:=zNW.1 b1 (some k) hk;simp only[xM.2 hm] at this
    cases this)
   have hd:=gZ (k:=j) ho;have hn2:=xE (h:=h.del j) (k:=j) (f:=fun v=>.cells el v p.1) hd.2 ⟨rfl,qI hd.1 m1⟩
   have look:∀ i,i≠j->slk i ((h.del j).new j fun v=>.cells el v p.1).l=slk i h.l:=fun i hi=>by
    show slk i ((j,_)::(h.del j).l)=_;rw[yB hi];exact kU hi _
   have zJA:slk j ((h.del j).new j fun v=>.cells el v p.1).l=some (.cells el (h.del j).next p.1):=jB
   have zFZ:qB j (qD hn.l)=some (SO.cells el (h.del j).next p.1).enc:=by
    rw[zP hkn];simp[SO.enc,q1]
   refine qOH hon (bs:=bs) (c:=b) (rest:=rest) hn2.2 (qI hn2.1 (qI hd.1 m2)) e hb2 q2.symm b3 (fun i o2 hi hni=>?_) (fun i o2 hi hni=>?_) k o hk
   ·by_cases hij:i=j
    ·subst hij;rw[zJA] at hi;cases hi;exact zFZ
    ·rw[look i hij] at hi;exact hq i o2 hi (by rw[zOC,zOF,not_or];exact⟨hij,hni⟩)
   ·by_cases hij:i=j
    ·subst hij;rw[zJA] at hi;cases hi;exact zFZ
    ·rw[look i hij] at hi;exact hqL i o2 hi hni
end
end Go.Sv
namespace Go.Sv
open Go.Idl
noncomputable section
variable [Gc]
variable [Yl]
variable {P:Program}{R:Type}{r:R}{nm:Nm}
def qSW (os:List (Nat×Bool))(h:SH):Bool:=os.all fun p=>match slk p.1 h.l with
 | some ob=>(match obD ob with
   | some q=>q.2==p.2
   | none=>false)
 | none=>false
def qIP (l:List (Nat×Nat))(env:List SV)(h:SH):Bool:=l.all fun p=>cond (Nat.ble mkM p.2) (match zL env p.1 with
 | some (.mp k)=>Nat.beq k (p.2 - mkM)
 | _=>false) (match zL env p.1 with
 | some (.own k g _)=>Nat.beq k p.2&&(match slk k h.l with
   | some (.list _ _ g' _ _ _)=>Nat.beq g g'
   | _=>false)
 | _=>false)
def dS (ls:List Nat)(hh h:SH):Bool:=hh.l.all fun p=>mY p.1 ls||(match slk p.1 h.l with
 | some o=>Nat.beq o.w p.2.w||(match slk p.1 hh.l with
   | some q=>Nat.beq o.w q.w
   | none=>false)
 | none=>false)
omit [Yl] in
theorem qLH {k:Nat}{o:SO}:∀ {l:List (Nat×SO)},slk k l=some o->(k,o)∈l
 | (j,p)::l,h=>by
   have h1:cond (k==j) (some p) (slk k l)=some o:=h;clear h
   cases hj:k==j with
   | true =>
     rw[hj] at h1;have h2:p=o:=zOP h1;have:k=j:=by simpa using hj
     rw[this,h2];exact zN1
   | false =>
     rw[hj] at h1;exact zNZ _ (qLH (l:=l) h1)
omit [Yl] in
theorem qGN:∀ {ks:List Nat} {h:SH} {os:List (Nat×Bool)},q4S ks h=some os->os.map (·.1)=ks
 | [],h,os,e=>by cases e;rfl
 | k::ks,h,os,e=>by
   unfold q4S at e;split at e
   ·rename_i hk hl;split at e
    ·cases e;rw[zOC,qGN hl]
    ·cases e
   ·cases e
omit [Yl] in
theorem qMU:∀ {ks:List Nat} {h:SH} {os:List (Nat×Bool)},q4S ks h=some os->qSW os h=true
 | [],h,os,e=>by cases e;rfl
 | k::ks,h,os,e=>by
   unfold q4S at e;split at e
   ·rename_i ob os' hk hl;split at e
    ·rename_i p hp;cases e;have ih:=qMU hl;unfold qSW at ih ⊢;rw[zO7,ih];simp only[hk,hp];simp
    ·cases e
   ·cases e
omit [Yl] in
theorem qTY:∀ {ks:List Nat} {h:SH} {b:List SV},qSU ks h=some b->∀ (i:Nat) k,ks[i]?=some k->∃ ob p,slk k h.l=some ob∧obD ob=some p∧b[i]?=some p.1
 | [],h,b,e,i,k,hk=>by simp at hk
 | j::ks,h,b,e,i,k,hk=>by
   unfold qSU at e;split at e
   ·rename_i ob l hj hl;split at e
    ·rename_i p hp;cases e
     cases i with
     | zero =>
       simp at hk;subst hk;exact⟨ob,p,hj,hp,rfl⟩
     | succ i=>exact qTY hl i k (by simpa using hk)
    ·cases e
   ·cases e
omit [Yl] in
theorem qOI:∀ {ks:List Nat} {h:SH} {b:List SV},qSU ks h=some b->b.length=ks.length
 | [],h,b,e=>by cases e;rfl
 | k::ks,h,b,e=>by
   unfold qSU at e;split at e
   ·rename_i hk hl;split at e
    ·cases e;simp only[zOI,qOI hl]
    ·cases e
   ·cases e
theorem qML {h h2:SH}{env:List SV}(ho:OkH P h)(ho2:OkH P h2)(hs:∀ k o,slk k h2.l=some o->qB k (qD h.l)=some o.enc)(hen:okL h env):∀ {l:List (Nat×Nat)} {m e2:List SV},qIP l env h=true->q3G l h2 m=some e2->WkP (qC env) (qC m)->WkP (qC env) (qC e2)
 | [],m,e2,_,e,hw=>by cases e;exact hw
 | (i,k)::l,m,e2,hc,e,hw=>by
   unfold qIP at hc;rw[zO7,zNT] at hc;unfold q3G at e;have c0:=hc.1;simp only at c0
   cases hmk:Nat.ble mkM k with
   | true =>
     rw[hmk] at e c0;simp only[cond_true] at e c0;refine qML ho ho2 hs hen hc.2 e ?_;split at c0
     ·rename_i k' hi;have hkk:=zNU c0;rw[kD];refine qGL hw ?_;rw[zA,hi,hkk];rfl
     ·cases c0
   | false =>
   rw[hmk] at e c0;simp only[cond_false] at e c0;split at e
   ·rename_i el gr g w u xs hk;refine qML ho ho2 hs hen hc.2 e ?_;have c1:=c0;split at c1
    ·rename_i k' g' n' hi;have c3:qC1 k (.own k' g' n') h=true:=c1;rw[kD];refine qGL hw ?_;rw[zA,hi];show some (SV.own k' g' n').enc=_;rw[qFN ho ho2 (mE hen hi) c3 hk (hs k _ hk)]
    ·cases c1
   ·cases e
theorem qOX {W:List Nat}{sh:Sh}{ts:List Ty}{os:List (Nat×Bool)}{zEJ e2 b c:List SV}{h1 h h2:SH}{s:TyL ts}(ho:OkH P h)(ho1:OkH P h1)
 (hb:qSU sh.o h=some b) (hcB:qYQ sh.b h=some c) (w2:qC (dI sh.d (svL ts s) (blank W 0 zEJ)).2=qC (b++c)) (hm:mkS P W sh ts os zEJ h1 s=some (e2,h2)) (hos:os.map (·.1)=sh.o) (hgr:qSW os h=true) (hbx:mP (sh.b.map (·.1)) sh.b h1 h=true)
 (hkept:∀ k o,k ∉ sh.o->k ∉ sh.b.map (·.1)->slk k h1.l=some o->qB k (qD h.l)=some o.enc) :
 OkH P h2∧q3G sh.s h2 (dI sh.d (svL ts s) (blank W 0 zEJ)).1=some e2∧∀ k o,slk k h2.l=some o->qB k (qD h.l)=some o.enc:=by
 unfold mkS at hm;split at hm
 case h_2=>cases hm
 rename_i h3 hso;split at hm
 case h_2=>cases hm
 rename_i h4 hsb;split at hm
 case h_2=>cases hm
 rename_i e3 hss;cases hm;have hlen:os.length=b.length:=by rw[qOI hb,<-hos,zN5]
 have t1:qC ((dI sh.d (svL ts s) (blank W 0 zEJ)).2.take os.length)=qC b:=by
  rw[qWO,w2,zH,zH,zO0,hlen,<-zN5 (as:=b) (f:=SV.enc),List.take_left]
 have t2:qC ((dI sh.d (svL ts s) (blank W 0 zEJ)).2.drop os.length)=qC c:=by
  rw[qUM,w2,zH,zH,zO0,hlen,<-zN5 (as:=b) (f:=SV.enc),List.drop_left]
 have zJB:∀ k o,¬ k∈sh.b.map (·.1)->slk k h3.l=some o->qB k (qD h.l)=some o.enc:=by
  refine qPL (B:=fun k=>k∈sh.b.map (·.1)) hso (fun k o hB hk hk2=>hkept k o (by rw[<-hos];exact hk) hB hk2) ?_;intro i k gr x hi hx;have hki:sh.o[i]?=some k:=by rw[<-hos,zN9,hi];rfl
  obtain⟨ob,p,q1,q0,q2⟩:=qTY hb i k hki
  have hce:x.enc=p.1.enc:=by
   have e1:(qC b)[i]?=some p.1.enc:=by rw[zH,zN9,q2];rfl
   rw[<-t1,zH,zN9,hx] at e1;exact zOP e1
  have hg:p.2=gr:=by
   unfold qSW at hgr;have:=zNW.1 hgr (k,gr) (zOX hi);simp only[q1,q0] at this;simpa using this
  rw[hce,zP q1,<-hg,zCR q0]
 obtain⟨k3,ho3,_⟩:=qMF ho1 hso;have hrest:okL h3 ((dI sh.d (svL ts s) (blank W 0 zEJ)).2.drop os.length):=qP2 _ (qB6 (qCH ts s));have hsub:=qOH (L:=sh.b.map (·.1)) ho (c:=c) (rest:=[]) ho3 hrest hsb hcB (by rw[zPN];exact t2.symm) hbx (fun k o hk hn=>zJB k o hn hk) (fun k o hk hn=>zJB k o hn hk);obtain⟨_,ho4,_⟩:=qLS ho3 hrest hsb;exact⟨ho4,hss,hsub⟩
theorem qCU {h h2:SH}(hsub:∀ k o,slk k h2.l=some o->qB k (qD h.l)=some o.enc):qCM (qD h2.l) (qD h.l):=fun k ob hk=>by
 rw[vH] at hk;obtain⟨o,h1,h2⟩:=zN4.1 hk;rw[hsub k o h1,h2]
theorem q1L {W:List Nat}{sh:Sh}{ts:List Ty}{os:List (Nat×Bool)}{zEJ env e2 a b c:List SV}{h1 h h2:SH}{s:TyL ts}(ho:OkH P h)(ho1:OkH P h1)(hen:okL h env)
 (ha:qHJ sh.d env=some a) (hb:qSU sh.o h=some b) (hcB:qYQ sh.b h=some c) (hd:sW ts (a++(b++c))=some s) (hm:mkS P W sh ts os zEJ h1 s=some (e2,h2)) (hos:os.map (·.1)=sh.o) (hgr:qSW os h=true) (hown:qIP sh.s env h=true) (hbx:mP (sh.b.map (·.1)) sh.b h1 h=true)
 (hkept:∀ k o,k ∉ sh.o->k ∉ sh.b.map (·.1)->slk k h1.l=some o->qB k (qD h.l)=some o.enc) (hbl:WkP (qC env) (qC (blank W 0 zEJ))) :
 WkP (qC env) (qC e2)∧qCM (qD h2.l) (qD h.l):=by
 have hde:=bB hd;obtain⟨w1,w2⟩:=qNT (m:=svL ts s) ha hde hbl;obtain⟨ho4,hss,hsub⟩:=qOX ho ho1 hb hcB w2 hm hos hgr hbx hkept;exact⟨qML ho ho4 hsub hen hown hss w1,qCU hsub⟩
theorem uV {W:List Nat}{sh:Sh}{ts:List Ty}{os:List (Nat×Bool)}{zEJ e2:List SV}{h1 h2:SH}{s:TyL ts}(ho1:OkH P h1)(he1:okL h1 zEJ)(hm:mkS P W sh ts os zEJ h1 s=some (e2,h2)) :
 Keep h1 h2∧OkH P h2∧okL h2 e2∧e2.length=zEJ.length∧(∀ j,j ∉ W->j ∉ sh.d->j ∉ sh.s.map (·.1)->zL (qC e2) j=zL (qC zEJ) j)∧∀ k,k ∉ os.map (·.1)->k ∉ sh.b.map (·.1)->slk k h2.l=slk k h1.l:=by
 unfold mkS at hm;split at hm
 case h_2=>cases hm
 rename_i h3 hso;split at hm
 case h_2=>cases hm
 rename_i h4 hsb;split at hm
 case h_2=>cases hm
 rename_i e3 hss;cases hm;obtain⟨a1,a2,a3⟩:=qMF ho1 hso;have hrest:okL h3 ((dI sh.d (svL ts s) (blank W 0 zEJ)).2.drop os.length):=qP2 _ (qB6 (qCH ts s));obtain⟨c1,c2,c3⟩:=qLS a2 hrest hsb;have hok:okL h2 (dI sh.d (svL ts s) (blank W 0 zEJ)).1:=qNK (qCH ts s) (qPU (qI c1 (qI a1 he1)));obtain⟨b1,b2,b3⟩:=qL9 c2 hok hss;refine⟨a1.trans c1,c2,b1,by rw[b2,qFH,qB8],fun j hj hjd hjs=>?_,fun k hk hk2=>(c3 k hk2).trans (a3 k hk)⟩;rw[zA,zA,b3 j hjs,qHE hjd,qAI]
 have:mY (0+j) W=false:=by
  cases hq:mY (0+j) W with
  | false=>rfl
  | true=>rw[zOR] at hq;exact absurd (xM.1 hq) hj
 rw[this];cases zL zEJ j <;> rfl
theorem qAD {W:List Nat}{env zEJ:List SV}(hl:env.length=zEJ.length)(h:∀ i,i ∉ W->zL (qC env) i=zL (qC zEJ) i):WkP (qC env) (qC (blank W 0 zEJ)):=by
 refine qO0 (by rw[qV,qV,qB8,hl]) fun i=>?_
 rw[zA (blank W 0 zEJ),qAI,zOR]
 cases hq:mY i W with
 | true =>
   cases hx:zL zEJ i with
   | none =>
     left
     have:zL env i=none:=by
      rw[qF] at hx ⊢;rw[zQT] at hx ⊢;omega
     rw[zA,this];rfl
   | some x=>right;simp[SV.enc]
 | false =>
   left
   have hni:i ∉ W:=fun hm=>by
    rw[xM.2 hm] at hq;cases hq
   rw[h i hni,zA zEJ];cases zL zEJ i <;> rfl
end
end Go.Sv
namespace Go.Sv
open Go.Idl
noncomputable section
abbrev vS (Γ:Option Type)(R:Type):=zFG->GV Γ->List SV->SH->zED R
def zED.sum {R:Type}{α β:Type}(x:α⊕β)(f:α->zED R)(g:β->zED R):zED R:=Sum.rec f g x
variable [Gc]
variable [Yl]
variable {P:Program}{Γ:Option Type}{R:Type}{r:R}{nm:Nm}{G:Nat->Bool}{rd:Bool}{N:Nat}{rs:List Ty}{wd:Wld (GV Γ)}
def EQ (P:Program)(N:Nat)(w:List Nat)(env:List SV)(h:SH)(K:vS Γ R)(r:R):YQ (GV Γ):=fun e g pe ph =>
 ∃ env' h',pe=qC env'∧ph=qD h'.l∧okL h' env'∧OkH P h'∧env'.length=N∧Keep h h'∧(e≠.ret->xQ P w env h env' h')∧(K e g env' h').run=some r
def zDH (id:Nat)(K:vS Γ R):vS Γ R:=fun e g env h=>match e with
 | .exit i=>cond (Nat.beq i id) (K .normal g env h) (K (.exit i) g env h)
 | e=>K e g env h
def q5X:List Nat->Nat->(Nat->zED R)->zED R
 | [],_,_=>.fail
 | a::l,j,K=>.ite (Nat.beq j a) (K a) (q5X l j K)
omit [Yl] in
theorem qPD:∀ {l:List Nat} {j:Nat} {K:Nat->zED R},(q5X l j K).run=some r->(K j).run=some r
 | [],j,K,e=>by cases e
 | a::l,j,K,e=>by
   rcases run_ite e with ⟨z,e1⟩ | ⟨z,e1⟩
   ·rw[zNU z];exact e1
   ·exact qPD e1
def bk (sh:Sh)(os:List (Nat×Bool))(ts:List Ty)(mk:TyL ts->Option (List SV×SH))(h1 hh:SH)(env:List SV)(h:SH):Option (TyL ts):=match qHJ sh.d env,qSU sh.o h,qYQ sh.b h with
 | some a,some b,some c=>(match sW ts (a++(b++c)) with
   | some s=>cond (qSW os h&&(qIP sh.s env h&&(mP (sh.b.map (·.1)) sh.b h1 h&&(dS (sh.o++sh.b.map (·.1)) hh h&&(mk s).isSome)))) (some s) none
   | none=>none)
 | _,_,_=>none
def mkL:Nat:=2000000000000000
def lbL (y:Nat):Nat:=y - mkL
def o8:List (Nat×TypeId)->List SV->SH->List SV->List SV
 | [],_,_,e=>e
 | (i,y)::l,e0,h,e=>cond (Nat.ble mkL y) (match slk (lbL y) h.l,zL e0 i with
   | some (.list _ _ g _ _ xs),some (.sl _ _ _ o m)=>o8 l e0 h (yT e i (.sl (lbL y) g (List.length xs) o m))
   | _,_=>o8 l e0 h e) (o8 l e0 h e)
def slG:List (Nat×TypeId)->List SV->SH->Bool
 | [],_,_=>true
 | (i,y)::l,e0,h=>cond (slG l e0 h) (cond (Nat.ble mkL y) (match slk (lbL y) h.l,zL e0 i with
   | some (.list _ _ _ _ _ xs),some (.sl _ _ _ o m)=>Nat.ble (o+m) (List.length xs)
   | _,_=>false) true) false
def zC3 (k:Nat)(v:SV)(h:SH):Bool:=match v with
 | .sl k' g n _ _=>qC1 k (.own k' g n) h
 | _=>false
def q2N (l:List (Nat×TypeId))(env:List SV)(h:SH):Bool:=l.all fun p=>cond (Nat.ble mkL p.2) (match zL env p.1 with
 | some v=>zC3 (lbL p.2) v h
 | none=>false) true
def slW (wb:List Nat)(l:List (Nat×TypeId)):Bool:=l.all fun p=>cond (Nat.ble mkL p.2) (!mY p.1 wb) true
def isP (k o m:Nat)(x:Option SV):Prop:=∃ g n,x=some (.sl k g n o m)
omit [Yl] in
theorem qOQ {k o m j g0 n0 k0:Nat}{e0:List SV}{h:SH}(h0:zL e0 j=some (.sl k0 g0 n0 o m)):∀ {l:List (Nat×TypeId)} {e:List SV},(∀ y,(j,y)∈l->Nat.ble mkL y=true->lbL y=k)->isP k o m (zL e j)->isP k o m (zL (o8 l e0 h e) j)
 | [],e,_,he=>he
 | (i,y)::l,e,hy,he=>by
   have ih:=fun {e:List SV}=>qOQ (k:=k) (h:=h) h0 (l:=l) (e:=e) fun y hm=>hy y (zNZ _ hm)
   unfold o8
   cases hb:Nat.ble mkL y with
   | false=>exact ih he
   | true =>
     simp only[cond_true];split
     ·rename_i hk hi;refine ih ?_;by_cases hij:i=j
      ·subst hij;rw[h0] at hi;cases hi;rw[hy y zN1 hb];obtain⟨g,n,h2⟩:=he
       have hlt:i < e.length:=by
        rw[qF] at h2;exact (zN0.1 h2).1
       exact⟨_,_,by rw[qZ,qF,List.getElem?_set_self hlt]⟩
      ·rw[qZ,qF,zR4 hij,<-qF];exact he
     ·exact ih he
omit [Yl] in
theorem qO7 {k o m j y0 g0 n0 k0:Nat}{e0:List SV}{h:SH}(h0:zL e0 j=some (.sl k0 g0 n0 o m)):∀ {l:List (Nat×TypeId)} {e:List SV},(∀ y,(j,y)∈l->Nat.ble mkL y=true->lbL y=k)->(j,y0)∈l->Nat.ble mkL y0=true->slG l e0 h=true->j < e.length->isP k o m (zL (o8 l e0 h e) j)
 | (i,y)::l,e,hy,hm,hy0,hg,hlt=>by
   have hy':∀ y,(j,y)∈l->Nat.ble mkL y=true->lbL y=k:=fun y hm=>hy y (zNZ _ hm)
   unfold slG at hg
   cases hgl:slG l e0 h with
   | false=>rw[hgl] at hg;cases hg
   | true =>
   rw[hgl,cond_true] at hg;have len:∀ {x:SV},j < (yT e i x).length:=fun {x}=>by rw[jL];exact hlt
   rcases zOF.1 hm with hq | hq
   ·cases hq;unfold o8;rw[hy0,cond_true] at hg ⊢;split at hg
    ·rename_i el gr g w t xs k2 g2 n2 o2 m2 hk hi;rw[h0] at hi;cases hi;refine qOQ h0 hy' ?_;rw[hy y0 zN1 hy0];exact⟨_,_,by rw[qZ,qF,List.getElem?_set_self hlt]⟩
    ·cases hg
   ·unfold o8
    cases hb:Nat.ble mkL y with
    | false=>exact qO7 h0 hy' hq hy0 hgl hlt
    | true =>
      simp only[cond_true];split
      ·exact qO7 h0 hy' hq hy0 hgl len
      ·exact qO7 h0 hy' hq hy0 hgl hlt
omit [Yl] in
theorem qIW {j:Nat}{e0:List SV}{h:SH}:∀ {l:List (Nat×TypeId)} {e:List SV},j ∉ l.map (·.1)->zL (o8 l e0 h e) j=zL e j
 | [],e,_=>rfl
 | (i,y)::l,e,hj=>by
   rw[zOC,zOF,not_or] at hj;unfold o8
   cases Nat.ble mkL y with
   | false=>exact qIW hj.2
   | true =>
     simp only[cond_true];split
     ·rw[qIW hj.2,qZ,qF,zR4 (fun q=>hj.1 q.symm),<-qF]
     ·exact qIW hj.2
omit [Yl] in
theorem qWW {e0:List SV}{h:SH}(ho:OkH P h):∀ {l:List (Nat×TypeId)} {e:List SV},okL h e->slG l e0 h=true->okL h (o8 l e0 h e)∧(o8 l e0 h e).length=e.length
 | [],e,he,_=>⟨he,rfl⟩
 | (i,y)::l,e,he,hg=>by
   unfold slG at hg
   cases hgl:slG l e0 h with
   | false=>rw[hgl] at hg;cases hg
   | true =>
   rw[hgl,cond_true] at hg;unfold o8
   cases hb:Nat.ble mkL y with
   | false=>exact qWW ho he hgl
   | true =>
     rw[hb,cond_true] at hg;simp only[cond_true];split at hg
     ·rename_i el gr g w t xs k' g' n' o m hk hi
      have hv:(SV.sl (lbL y) g (List.length xs) o m).ok h:=by
       simp only[SV.ok];refine⟨⟨(ho.list _ _ _ _ _ _ _ hk).1,fun el2 gr2 w2 t2 xs2 h2=>?_⟩,zN3 hg⟩;rw[hk] at h2;cases h2;rfl
      obtain⟨a1,a2⟩:=qWW ho (xH (t:=i) he hv) hgl;exact⟨a1,a2.trans (jL _ _ _)⟩
     ·cases hg
theorem qTP {h h3:SH}{env e0:List SV}(ho:OkH P h)(ho3:OkH P h3)(hs:qCM (qD h3.l) (qD h.l))(hen:okL h env):∀ {l:List (Nat×TypeId)} {m:List SV},q2N l env h=true ->
 (∀ i y k g n o q,(i,y)∈l->Nat.ble mkL y=true->zL e0 i=some (.sl k g n o q)->∃ k' g' n',zL env i=some (.sl k' g' n' o q))->WkP (qC env) (qC m)->WkP (qC env) (qC (o8 l e0 h3 m))
 | [],m,_,_,hw=>hw
 | (i,y)::l,m,hc,hom,hw=>by
   unfold q2N at hc;rw[zO7,zNT] at hc;have zMB:=fun i y k g n o q hm=>hom i y k g n o q (zNZ _ hm)
   have ih:=fun {m:List SV}=>qTP ho ho3 hs hen (l:=l) (m:=m) hc.2 zMB
   unfold o8
   cases hb:Nat.ble mkL y with
   | false=>exact ih hw
   | true =>
     have c0:=hc.1;simp only[hb,cond_true] at c0 ⊢;split
     ·rename_i el gr g w t xs k0 g0 n0 o q hk hi;refine ih ?_;obtain⟨k',g',n',hi2⟩:=hom i y _ _ _ _ _ zN1 hb hi;rw[hi2] at c0;have c3:qC1 (lbL y) (.own k' g' n') h=true:=c0
      have hv:(SV.own k' g' n').ok h:=by
       have:=mE hen hi2;simp only[SV.ok] at this ⊢;exact this.1
      have he:=qFN ho ho3 hv c3 hk (hs _ _ (zP hk));rw[kD];refine qGL hw ?_;rw[zA,hi2,zN8];simp only[SV.enc,PV.own.injEq] at he ⊢;obtain⟨e1,e2,_,_⟩:=he;rw[e1,e2]
     ·exact ih hw
theorem qVL {l:List (Nat×TypeId)}{env:List SV}{h:SH}(hc:q2N l env h=true){i y:Nat}(hm:(i,y)∈l)(hb:Nat.ble mkL y=true):∃ g n o q,zL env i=some (.sl (lbL y) g n o q):=by
 unfold q2N at hc;have:=zNW.1 hc (i,y) hm;simp only[hb,cond_true] at this;split at this
 ·rename_i v hv;unfold zC3 at this;split at this
  ·rename_i k g n o q;unfold qC1 at this;simp only[zNT] at this;have hk:=zNU this.1;rw[hk] at hv;exact⟨g,n,o,q,hv⟩
  ·exact absurd this zQO
 ·exact absurd this zQO
def qX8 (rdv:List SV->SH->Option (TyL rs))(id:Nat)(sh:Sh)(os:List (Nat×Bool))(ts:List Ty)(mk:TyL ts->Option (List SV×SH))(h1 hh:SH):vS Γ (GS Γ (TyL ts)⊕(GS Γ (TyL ts)⊕(GS Γ (TyL rs)⊕GS Γ (Nat×TyL ts)))):=fun e g env h=>match e with
 | .normal=>cond (q2N sh.v env h) (match bk sh os ts mk h1 hh env h with
   | some s=>.ret (.inl (gj g s))
   | none=>.fail) .fail
 | .exit j=>cond (q2N sh.v env h) (match bk sh os ts mk h1 hh env h with
   | some s=>.ret (.inr (cond (Nat.beq j id) (.inl (gj g s)) (.inr (.inr (gj g (j,s))))))
   | none=>.fail) .fail
 | .ret=>(match rdv env h with
   | some v=>.ret (.inr (.inr (.inl (gj g v))))
   | none=>.fail)
 | .goto _=>.fail
def goS {α:Type}(o:Option (α×SH))(K:α->SH->zED R):zED R:=match o with
 | some p=>K p.1 p.2
 | none=>.fail
omit [Yl] in
theorem nA {α:Type}{o:Option (α×SH)}{K:α->SH->zED R}(e:(goS o K).run=some r):∃ a h,o=some (a,h)∧(K a h).run=some r:=by
 unfold goS at e;split at e
 ·exact⟨_,_,rfl,e⟩
 ·cases e
def q9K (P:Program)(nm:Nm)(wb w:List Nat)(rdv:List SV->SH->Option (TyL rs))(en:TyL rs->List SV)(hb:SH)(sh:Sh)(id:Nat)(body:∀ {R':Type},GV Γ->List SV->SH->vS Γ R'->zED R')(g:GV Γ)(env:List SV)(h:SH)(K:vS Γ R):zED R :=
 qRJ P nm sh.v env h fun zEJ h0=>qWQ P nm (sh.b.map (·.1)) sh.bv zEJ h0 fun zEJ h1=>match qHJ sh.d zEJ,qSU sh.o h1,qYQ sh.b h1,q4S sh.o h1 with
  | some a,some b,some c,some os=>(match zCL (a++(b++c)) with
    | some ts=>(match sW ts (a++(b++c)) with
      | some s0=>cond ((qIP sh.s zEJ h1&&mP (sh.b.map (·.1)) sh.b h1 h1)&&(q2N sh.v zEJ h1&&slW wb sh.v))
         (.loop (fun s=>goS (mkS P w sh ts os zEJ h1 (g2 s)) fun e hh=>.ite (slG sh.v zEJ hh) (body (g1 s) (o8 sh.v zEJ hh e) hh (qX8 rdv id sh os ts (mkS P w sh ts os zEJ h1) h1 hh)) .fail) (gj g s0)
           fun q=>zED.sum q (fun s=>goS (mkS P w sh ts os zEJ h1 (g2 s)) fun e hh=>.ite (slG sh.v zEJ hh) (K .normal (g1 s) (o8 sh.v zEJ hh e) hh) .fail)
            fun q2=>zED.sum q2 (fun v=>K .ret (g1 v) (en (g2 v)) ⟨h.next,hb.l⟩)
             fun p=>q5X sh.ex (g2 p).1 fun j=>goS (mkS P w sh ts os zEJ h1 (g2 p).2) fun e hh=>.ite (slG sh.v zEJ hh) (K (.exit j) (g1 p) (o8 sh.v zEJ hh e) hh) .fail) .fail
      | none=>.fail)
    | none=>.fail)
  | _,_,_,_=>.fail
def lpW (w:List Nat)(sh:Sh):List Nat:=sh.v.map (·.1)++(w++(sh.d++sh.s.map (·.1)))
structure zHG (P:Program) (nm:Nm) (N:Nat) (hb:SH) (rdv:List SV->SH->Option (TyL rs)) (en:TyL rs->List SV):Prop where
 ob:OkH P hb
 wk:∀ env h v,OkH P h->okL h env->env.length=N->Keep hb h->rdv env h=some v->Wk P nm (qC env) (qD h.l) (qC (en v)) (qD hb.l)
 kept:∀ env h v,OkH P h->okL h env->Keep hb h->rdv env h=some v->∀ k o,slk k hb.l=some o->slk k h.l=some o
 len:∀ v,(en v).length=N
 ok:∀ v h,okL h (en v)
omit [Yl] in
theorem q97 {h:SH}(a:OkH P h){n:Nat}(hn:h.next<=n):OkH P ⟨n,h.l⟩:=by
 have hk:∀ {x:SV},x.ok h->x.ok ⟨n,h.l⟩:=fun {x} hx=>SV.ok.keep (h:=h) (h':=⟨n,h.l⟩) ⟨hn,fun k ob hh _=>hh,fun k el gr g w t xs hh _=>⟨w,xs,hh,rfl⟩⟩ hx
 exact⟨fun k ob hh=>zNY (a.ver k ob hh) hn,fun k el w l hh=>zM.2 fun x hx=>hk (zM.1 (a.cells k el w l hh) x hx),fun k el gr g w t xs hh=>by
  have:=a.list k el gr g w t xs hh
  exact⟨zNY this.1 hn,this.2⟩⟩
omit [Yl] in
theorem rR:OkH P ⟨0,[]⟩:=⟨fun k ob h=>(by cases h),fun k el w l h=>(by cases h),fun k el gr g w t xs h=>(by cases h)⟩
omit [Yl] in
theorem qQ3 {σ ρ:Type}{f:σ->Option (σ⊕ρ)}{s:σ}{q:ρ}(h:qW f s=some q):∃ y,f s=some y:=by
 rw[wD] at h
 cases hf:f s with
 | none=>rw[hf] at h;cases h
 | some y=>exact⟨y,rfl⟩
omit [Yl] in
theorem qOS {ls:List Nat}{hh h:SH}{k:Nat}{o:SO}(ho:OkH P hh)(hk:Keep hh h)(e:dS ls hh h=true)(h1:k ∉ ls)(h2:slk k hh.l=some o):slk k h.l=some o:=by
 unfold dS at e;have:=zNW.1 e (k,o) (qLH h2);rw[zOU] at this;rcases this with q | q
 ·exact absurd (xM.1 q) h1
 ·simp only at q;split at q
  ·rename_i o' ho'
   have hw:o'.w=o.w:=by
    rw[zOU] at q;rcases q with q | q
    ·exact zNU q
    ·rw[h2] at q;exact zNU q
   have:=hk.same k o' ho' (by rw[hw];exact ho.ver k o h2);rw[this] at h2;cases h2;exact ho'
  ·cases q
theorem oK {ls:List Nat}{hh h:SH}{k:Nat}{o:SO}(ho:OkH P hh)(hk:Keep hh h)(e:dS ls hh h=true)(h1:k ∉ ls)(h2:slk k hh.l=some o):qB k (qD h.l)=some o.enc:=zP (qOS ho hk e h1 h2)
theorem q07 {w:List Nat}{rdv:List SV->SH->Option (TyL rs)}{en:TyL rs->List SV}{hb:SH}(hrd:zHG P nm N hb rdv en){sh:Sh}{id:Nat}{y:Code}{body:∀ {R':Type},GV Γ->List SV->SH->vS Γ R'->zED R'}{wb:List Nat}(hwb:w=lpW wb sh)
 (hbody:∀ {R':Type} {g:GV Γ} {env:List SV} {h:SH} {K:vS Γ R'} {r:R'},OkH P h->okL h env->env.length=N->Keep hb h->(body g env h K).run=some r->qX P G rd nm wd y g (qC env) (qD h.l) (EQ P N wb env h K r))
 {g:GV Γ} {env:List SV} {h:SH} {K:vS Γ R} (ho:OkH P h) (he:okL h env) (hl:env.length=N) (hbh:Keep hb h) (e:(q9K P nm wb w rdv en hb sh id body g env h K).run=some r) :
 qX P G rd nm wd (.block id (.loop y)) g (qC env) (qD h.l) (EQ P N w env h K r):=by
 obtain⟨zEJ,h0,wk1,zGG,e⟩:=tH (nm:=nm) ho he e;obtain⟨h1,wk2,kp2,ho1,e⟩:=qKU (nm:=nm) zGG.2.1 zGG.1 e
 have zFU:xQ P (sh.v.map (·.1)) env h zEJ h1:=⟨qI kp2 zGG.1,ho1,zGG.2.2.1.trans kp2,zGG.2.2.2.1,zGG.2.2.2.2⟩
 split at e
 case h_2=>cases e
 rename_i a b c os ha hb1 hc1 hos;split at e
 case h_2=>cases e
 rename_i ts hts;split at e
 case h_2=>cases e
 rename_i s0 hs0;obtain⟨hown,e1⟩:=qG e;rw[zNT,zNT,zNT] at hown;obtain⟨hown,hsl⟩:=hown;obtain⟨q,hq,hafter⟩:=qPA e1;have he1:=zFU.1;have zHH:=qGN hos;have hl1:zEJ.length=N:=zFU.2.2.2.2.trans hl;have zKX:Keep hb h1:=hbh.trans zFU.2.2.1
 let E:GS Γ (TyL ts)->List PV:=fun s=>match mkS P w sh ts os zEJ h1 (g2 s) with
  | some p=>qC (o8 sh.v zEJ p.2 p.1)
  | none=>[]
 let Ph:GS Γ (TyL ts)->PHp:=fun s=>match mkS P w sh ts os zEJ h1 (g2 s) with
  | some p=>qD p.2.l
  | none=>[]
 have hE:∀ {s e2 h2},mkS P w sh ts os zEJ h1 (g2 s)=some (e2,h2)->E s=qC (o8 sh.v zEJ h2 e2)∧Ph s=qD h2.l:=fun hm=>by
  simp only[E,Ph,hm,and_self]
 obtain⟨y0,hy0⟩:=qQ3 hq;obtain⟨e0,hh0,hm0,_⟩:=nA hy0;obtain⟨wp0,sp0⟩:=q1L ho1 ho1 he1 ha hb1 hc1 hs0 (by rw[q2K] at hm0;exact hm0) zHH (qMU hos) hown.1 hown.2 (fun k o _ _ hk=>zP hk) (qAD rfl fun _ _=>rfl);have wp0:=qTP ho1 (uV ho1 he1 hm0).2.1 sp0 he1 hsl.1 (fun i y k g n o q _ _ hi=>⟨k,g,n,hi⟩) wp0
 have fin:∀ {s e2 h2},mkS P w sh ts os zEJ h1 s=some (e2,h2)->slG sh.v zEJ h2=true->okL h2 (o8 sh.v zEJ h2 e2)∧OkH P h2∧(o8 sh.v zEJ h2 e2).length=N∧xQ P w env h (o8 sh.v zEJ h2 e2) h2∧Keep h1 h2:=fun {s e2 h2} hm hg=>by
  obtain⟨a1,a2,a3,a4,a5,_⟩:=uV ho1 he1 hm;obtain⟨b1,b2⟩:=qWW a2 a3 hg;refine⟨b1,a2,(b2.trans a4).trans hl1,⟨b1,a2,zFU.2.2.1.trans a1,fun i hi=>?_,(b2.trans a4).trans zFU.2.2.2.2⟩,a1⟩;have hi2:i ∉ lpW wb sh:=by rw[<-hwb];exact hi
  unfold lpW at hi2;simp only[zOZ,not_or] at hi2;rw[zA,qIW hi2.1,<-zA,a5 i hi hi2.2.2.1 hi2.2.2.2,zFU.2.2.2.1 i hi2.1]
 refine qX.post (qX.pre' (wk1.trans wk2) ?_);refine qX.loop E Ph g1 hq (by rw[(hE hm0).1];exact wp0) (by rw[(hE hm0).2];exact sp0) q2R.symm ?_;intro s yy hstep;obtain⟨e2,hh,hm,hb2⟩:=nA hstep
 rcases run_ite hb2 with ⟨hgd,hb2⟩ | ⟨_,hb2⟩
 rotate_left 1
 ·cases hb2
 obtain⟨f1,f2,f3,f4,f5⟩:=fin hm hgd;rw[(hE hm).1,(hE hm).2];refine (hbody f2 f1 f3 (zKX.trans f5) hb2).mono ?_;rintro ex g' pe ph ⟨env',h',rfl,rfl,k1,k2,k3,k0,k4,k5⟩;obtain⟨_,_,_,m4,m5,m6⟩:=uV ho1 he1 hm
 have back:∀ {s'},ex≠.ret->q2N sh.v env' h'=true->bk sh os ts (mkS P w sh ts os zEJ h1) h1 hh env' h'=some s'->∃ e3 h3,mkS P w sh ts os zEJ h1 s'=some (e3,h3)∧WkP (qC env') (qC (o8 sh.v zEJ h3 e3))∧qCM (qD h3.l) (qD h'.l):=by
  intro s' hne zHI hbk;unfold bk at hbk;split at hbk
  case h_2=>cases hbk
  rename_i a' b' c' ha' hb' hc';split at hbk
  case h_2=>cases hbk
  rename_i s2 hs2
  cases hc:(qSW os h'&&(qIP sh.s env' h'&&(mP (sh.b.map (·.1)) sh.b h1 h'&&(dS (sh.o++sh.b.map (·.1)) hh h'&&(mkS P w sh ts os zEJ h1 s2).isSome)))) with
  | false=>rw[hc] at hbk;cases hbk
  | true =>
    rw[hc] at hbk;cases hbk;simp only[zNT] at hc;obtain⟨⟨e3,h3⟩,hm3⟩:=zOV.1 hc.2.2.2.2;have zGH:=k4 hne
    have hboth:WkP (qC env') (qC e3)∧qCM (qD h3.l) (qD h'.l):=by
     refine q1L k2 ho1 k1 ha' hb' hc' hs2 hm3 zHH hc.1 hc.2.1 hc.2.2.1 (fun k o hk hkb hk2=>oK f2 zGH.2.2.1 hc.2.2.2.1 (by rw[zOZ,not_or];exact⟨hk,hkb⟩) ?_) (qAD ?_ ?_)
     ·rw[m6 k (by rw[zHH];exact hk) hkb];exact hk2
     ·rw[k3,hl1]
     ·intro i hi;have hi2:i ∉ lpW wb sh:=by rw[<-hwb];exact hi
      unfold lpW at hi2;simp only[zOZ,not_or] at hi2;rw[zGH.2.2.2.1 i hi2.2.1,zA,qIW hi2.1,<-zA,m5 i hi hi2.2.2.1 hi2.2.2.2]
    refine⟨e3,h3,hm3,qTP k2 (uV ho1 he1 hm3).2.1 hboth.2 k1 zHI (fun i y k g n o q hmem hb hi=>?_) hboth.1,hboth.2⟩;obtain⟨g2,n2,o2,q2,hi3⟩:=qVL zHI hmem hb
    have hlab:∀ y',(i,y')∈sh.v->Nat.ble mkL y'=true->lbL y'=lbL y:=fun y' hm' hb'=>by
     obtain⟨_,_,_,_,p1⟩:=qVL hsl.1 hm' hb';obtain⟨_,_,_,_,p2⟩:=qVL hsl.1 hmem hb;have p3:=zOP (p1.symm.trans p2);simp only[SV.sl.injEq] at p3;exact p3.1
    obtain⟨g3,n3,h5⟩:=qO7 (h:=hh) (e:=e2) hi hlab hmem hb hgd (by
     rw[m4];rw[qF] at hi
     exact (zN0.1 hi).1)
    have hnb:i ∉ wb:=fun hib=>by
     have h6:=hsl.2;unfold slW at h6;have h7:=zNW.1 h6 (i,y) hmem;simp only[hb,cond_true,xM.2 hib] at h7;cases h7
    have h8:=zGH.2.2.2.1 i hnb;rw[zA,zA,hi3,h5] at h8;simp only[zN8,SV.enc,zN2,PV.own.injEq] at h8;obtain⟨_,_,e1,e2⟩:=h8;exact⟨_,_,_,by rw[hi3,e1,e2]⟩
 have out:∀ {x s' e3 h3},mkS P w sh ts os zEJ h1 s'=some (e3,h3)->WkP (qC env') (qC (o8 sh.v zEJ h3 e3))->qCM (qD h3.l) (qD h'.l)->(zED.ite (slG sh.v zEJ h3) (K x g' (o8 sh.v zEJ h3 e3) h3) .fail).run=some r->∃ pe' ph',Wk P nm (qC env') (qD h'.l) pe' ph'∧EQ P N w env h K r x g' pe' ph':=fun {x s' e3 h3} hm3 w1 w2 hk=>by
  rcases run_ite hk with ⟨zMC,hk⟩ | ⟨_,hk⟩
  rotate_left 1
  ·cases hk
  obtain⟨g1,g2,g3,g4,g5⟩:=fin hm3 zMC;exact⟨_,_,Wk.drop w1 w2,o8 sh.v zEJ h3 e3,h3,rfl,rfl,g1,g2,g3,g4.2.2.1,fun _=>g4,hk⟩
 cases ex with
 | normal =>
   simp only[qX8] at k5;obtain⟨zHI,k5⟩:=qG k5;split at k5
   case h_2=>cases k5
   rename_i s' hs';cases k5;obtain⟨e3,h3,hm3,w1,w2⟩:=back (fun h=>by cases h) zHI hs';have hm3:mkS P w sh ts os zEJ h1 (g2 (gj g' s'))=some (e3,h3):=by rw[q2K];exact hm3
   show zFG.normal=.normal∧WkP (qC env') (E (gj g' s'))∧qCM (Ph (gj g' s')) (qD h'.l)∧g'=g1 (gj g' s');rw[(hE hm3).1,(hE hm3).2,q2R];exact⟨rfl,w1,w2,rfl⟩
 | exit j =>
   simp only[qX8] at k5;obtain⟨zHI,k5⟩:=qG k5;split at k5
   case h_2=>cases k5
   rename_i s' hs';obtain⟨e3,h3,hm3,w1,w2⟩:=back (fun h=>by cases h) zHI hs';cases k5;intro hqe;refine⟨fun h=>by (cases h),?_⟩
   cases hj:Nat.beq j id with
   | true =>
     rw[hj] at hqe;subst hqe;have hjj:j=id:=zNU hj;subst hjj;have hafter:(goS (mkS P w sh ts os zEJ h1 (g2 (gj g' s'))) fun e hh=>zED.ite (slG sh.v zEJ hh) (K .normal (g1 (gj g' s')) (o8 sh.v zEJ hh e) hh) .fail).run=some r:=hafter;obtain⟨e4,h4,hm4,hk⟩:=nA hafter;rw[q2K,hm3] at hm4;cases hm4;rw[q2R] at hk;exact BQY.on (out hm3 w1 w2 hk)
   | false =>
     rw[hj] at hqe;subst hqe;have hjj:j≠id:=fun h=>by rw[h,aA] at hj;cases hj
     obtain⟨e4,h4,hm4,hk⟩:=nA (qPD hafter);rw[q2K,hm3] at hm4;cases hm4;rw[q2R,q2K] at hk;exact BQY.ex hjj (out hm3 w1 w2 hk)
 | ret =>
   simp only[qX8] at k5;split at k5
   case h_2=>cases k5
   rename_i v hv;cases k5;intro hqe;subst hqe;have hbr:Keep hb h':=(zKX.trans f5).trans k0;have hkp:=hrd.kept _ _ _ k2 k1 hbr hv
   have hkh:∀ k o,slk k hb.l=some o->slk k h.l=some o:=fun k o hk=>by
    have h2:=hkp k o hk;have hw:o.w < h.next:=zNY (hrd.ob.ver k o hk) hbh.next;have zIV:Keep h h':=(zFU.2.2.1.trans f5).trans k0;exact zIV.same k o h2 hw
   have hkeep:Keep h ⟨h.next,hb.l⟩:=⟨zNV _,fun k ob hk _=>hkh k ob hk,fun k el gr g w t xs hk _=>⟨w,xs,hkh k _ hk,rfl⟩⟩
   have hafter:(K .ret (g1 (gj g' v)) (en (g2 (gj g' v))) ⟨h.next,hb.l⟩).run=some r:=hafter;rw[q2R,q2K] at hafter;refine⟨fun h=>by (cases h),BQY.rt ⟨_,_,hrd.wk _ _ _ k2 k1 k3 hbr hv,en v,⟨h.next,hb.l⟩,rfl,rfl,hrd.ok v _,q97 hrd.ob hbh.next,hrd.len v,hkeep,fun h=>absurd rfl h,hafter⟩⟩
 | goto l=>simp only[qX8] at k5;cases k5
def q9N (sh:Sh)(os:List (Nat×Bool))(ts:List Ty)(mk:TyL ts->Option (List SV×SH))(h1:SH):vS Γ (Unit⊕GS Γ (TyL ts)):=fun e g env h=>match e with
 | .normal=>(match bk sh os ts mk h1 h1 env h with
   | some s=>.ret (.inr (gj g s))
   | none=>.fail)
 | _=>.fail
def q9W (P:Program)(wa:List Nat)(j:zG1)(body:∀ {R':Type},GV Γ->List SV->SH->vS Γ R'->zED R')(g:GV Γ)(env:List SV)(h:SH)(K:GV Γ->List SV->SH->zED R):zED R :=
 cond ((j.d++j.s.map (·.1)).all fun i=>mY i wa)
  (.loop (fun _:Unit=>body g env h (q9N j.sh j.os j.ts (mkS P wa j.sh j.ts j.os env h) h)) () fun q=>goS (mkS P wa j.sh j.ts j.os env h (g2 q)) fun e hh=>K (g1 q) e hh) .fail
omit [Gc] [Yl] in
theorem qD0 {ρ:Type}{f:Unit->Option (Unit⊕ρ)}{q:ρ}:∀ {n:Nat},vP n f ()=some q->f ()=some (.inr q)
 | 0,h=>by cases h
 | n+1,h=>by
   unfold vP at h;split at h
   ·exact qD0 h
   ·rename_i hf;cases h;exact hf
   ·cases h
theorem q18 {wa:List Nat}{j:zG1}{y:Code}{body:∀ {R':Type},GV Γ->List SV->SH->vS Γ R'->zED R'}
 {g:GV Γ} {env:List SV} {h:SH} {K:GV Γ->List SV->SH->zED R}
 (hbody:∀ {R':Type} {K:vS Γ R'} {r:R'},(body g env h K).run=some r->qX P G rd nm wd y g (qC env) (qD h.l) (EQ P N wa env h K r))
 (ho:OkH P h) (he:okL h env) (hl:env.length=N) (e:(q9W P wa j body g env h K).run=some r) :
 qX P G rd nm wd y g (qC env) (qD h.l) fun ex g' pe ph=>ex=.normal∧∃ zEX h2,pe=qC zEX∧ph=qD h2.l∧OkH P h2∧okL h2 zEX∧zEX.length=N∧xQ P wa env h zEX h2∧(K g' zEX h2).run=some r:=by
 obtain⟨hsub,e1⟩:=qG e;obtain⟨q,hq,hafter⟩:=qPA e1;obtain⟨n,hn⟩:=aS hq;have hstep:=qD0 hn;obtain⟨e2,hh,hm,hk⟩:=nA hafter;refine qX.post ((hbody hstep).mono ?_);rintro ex g' pe ph ⟨env',h',rfl,rfl,k1,k2,k3,k0,k4,k5⟩
 cases ex with
 | normal =>
   simp only[q9N] at k5;split at k5
   case h_2=>cases k5
   rename_i s' hbk;cases k5;rw[q2K] at hm;rw[q2R] at hk;unfold bk at hbk;split at hbk
   case h_2=>cases hbk
   rename_i a' b' c' ha' hb' hc';split at hbk
   case h_2=>cases hbk
   rename_i s2 hs2
   cases hc:(qSW j.os h'&&(qIP j.sh.s env' h'&&(mP (j.sh.b.map (·.1)) j.sh.b h h'&&(dS (j.sh.o++j.sh.b.map (·.1)) h h'&&(mkS P wa j.sh j.ts j.os env h s2).isSome)))) with
   | false=>rw[hc] at hbk;cases hbk
   | true =>
     rw[hc] at hbk;cases hbk;simp only[zNT] at hc;have zGH:=k4 fun h=>by cases h
     obtain⟨w1,w2⟩:=q1L k2 ho k1 ha' hb' hc' hs2 hm rfl hc.1 hc.2.1 hc.2.2.1 (fun k o hk hkb hk2=>oK ho zGH.2.2.1 hc.2.2.2.1 (by rw[zOZ,not_or];exact⟨hk,hkb⟩) hk2) (qAD (k3.trans hl.symm) fun i hi=>zGH.2.2.2.1 i hi);obtain⟨m1,m2,m3,m4,m5,_⟩:=uV ho he hm
     have hin:∀ i,i ∉ wa->i ∉ j.d∧i ∉ j.s.map (·.1):=fun i hi=>by
      have hx:∀ z∈j.d++j.s.map (·.1),z∈wa:=fun z hz=>xM.1 (zNW.1 hsub z hz)
      exact⟨fun h=>hi (hx i (zO5 _ h)),fun h=>hi (hx i (zPR _ h))⟩
     exact⟨_,_,Wk.drop w1 w2,rfl,e2,hh,rfl,rfl,m2,m3,m4.trans hl,⟨m3,m2,m1,fun i hi=>m5 i hi (hin i hi).1 (hin i hi).2,m4⟩,hk⟩
 | exit _=>cases k5
 | ret=>cases k5
 | goto _=>cases k5
end
end Go.Sv
namespace Go.Sv
open Go.Idl
noncomputable section
variable [Gc]
variable [Yl]
variable {P:Program}{Γ:Option Type}{R:Type}{r:R}{nm:Nm}{G:Nat->Bool}{rd:Bool}{N:Nat}{rs:List Ty}{tab:uN}{nat:xK}{good:FuncId->Bool}{wd:Wld (GV Γ)}
omit [Yl] in
theorem qCP:∀ {ts:List Ty} {x:TyL ts} {y:PV},y∈pvL ts x->∃ (t:Ty) (z:t.sem),y=t.pv z
 | [],_,_,h=>by cases h
 | [t],x,y,h=>⟨t,x,by simpa [pvL] using h⟩
 | t::u::ts,x,y,h=>by
   have h:y∈t.pv x.1::pvL (u::ts) x.2:=h;rcases zOF.1 h with q | q
   ·exact⟨t,x.1,q⟩
   ·exact qCP q
omit [Yl] in
theorem qU4 (t:Ty)(x:t.sem):qKG (t.pv x)=true:=by
 unfold Ty.pv
 cases t.one with
 | true=>rfl
 | false =>
   show ((t.cells x).map PV.f).all qSZ=true;rw[zNW];intro y hy;obtain⟨c,_,rfl⟩:=zOJ.1 hy;rfl
omit [Yl] in
theorem q5O {Z:Nat->Prop}{H:IH}{M M':Nat->Option (Nat×PO)}{ts:List Ty}{x:TyL ts}{vs:List Value}(h:VRL P Z H M (pvL ts x) vs):VRL P Z H M' (pvL ts x) vs:=⟨h.len,fun i y v a b=>by
 obtain⟨t,z,rfl⟩:=qCP (zOX a)
 exact bQ (h.val i _ v a b) (qU4 t z)⟩
omit [Yl] in
theorem qFA:∀ (ts:List Ty) (x:TyL ts),(svL ts x).length=ts.length
 | [],_=>rfl
 | [_],_=>rfl
 | t::u::ts,x=>by
   show (t.sv x.1::svL (u::ts) x.2).length=_;simp only[zOI,qFA (u::ts)]
def q1G (t:Ty)(x:t.sem):PV:=.lp (t.cells x) 0
def q5K:(ts:List Ty)->TyL ts->List PV
 | [],_=>[]
 | [t],x=>[q1G t x]
 | t::u::ts,x=>q1G t x.1::q5K (u::ts) x.2
def qLJ:(ts:List Ty)->TyL ts->List SV
 | [],_=>[]
 | [t],x=>[.lp t [x] 0 0]
 | t::u::ts,x=>.lp t [x.1] 0 0::qLJ (u::ts) x.2
theorem qF7:∀ (ts:List Ty) (x:TyL ts),qC (qLJ ts x)=q5K ts x
 | [],_=>by simp[qLJ,q5K,qC]
 | [t],x=>by simp[qLJ,q5K,qC,SV.enc,q1G]
 | t::u::ts,x=>by
   show qC (.lp t [x.1] 0 0::qLJ (u::ts) x.2)=q1G t x.1::q5K (u::ts) x.2;simp only[qC,qF7 (u::ts)];simp[SV.enc,q1G]
omit [Yl] in
theorem qWC {h:SH}:∀ (ts:List Ty) (x:TyL ts),okL h (qLJ ts x)
 | [],_=>by simp[qLJ,okL]
 | [t],x=>by simp[qLJ,okL,SV.ok]
 | t::u::ts,x=>by
   show okL h (.lp t [x.1] 0 0::qLJ (u::ts) x.2);simp only[okL,SV.ok,true_and];exact qWC (u::ts) x.2
omit [Yl] in
theorem qF8:∀ (ts:List Ty) (x:TyL ts),(qLJ ts x).length=ts.length
 | [],_=>rfl
 | [_],_=>rfl
 | t::u::ts,x=>by
   show (SV.lp t [x.1] 0 0::qLJ (u::ts) x.2).length=_;simp only[zOI,qF8 (u::ts)]
def qCS (P:Program)(t:Ty)(v:SV)(h:SH):Option (t.sem×SH):=match v with
 | .ref k off w=>(match slk k h.l with
   | some (.cells el _ l)=>cond (!spec P el&&(Nat.beq off 0&&Nat.beq w l.length)) (match t.zHF P (vW P 8 el) l (h.del k) with
     | some (x,_,[],h')=>some (x,h')
     | _=>none) none
   | _=>none)
 | _=>none
def aJ (P:Program):(ts:List Ty)->List SV->SH->Option (TyL ts×SH)
 | [],[],h=>some ((),h)
 | [t],[v],h=>qCS P t v h
 | t::u::ts,v::vs,h=>match qCS P t v h with
   | some (x,h1)=>(match aJ P (u::ts) vs h1 with
     | some (y,h2)=>some ((x,y),h2)
     | none=>none)
   | none=>none
 | _,_,_=>none
theorem qA7 {t:Ty}{v:SV}{h:SH}{x:t.sem}{h':SH}(ho:OkH P h)(e:qCS P t v h=some (x,h')) :
 Keep h h'∧OkH P h'∧∀ (Z:Nat->Prop) (H:IH) (m:Nat->Nat) (u:Value),Hp P Z H (own m (qD h.l))->VR P Z H (own m (qD h.l)) v.enc u->∃ Z',Fz P Z H m (qD h.l) Z' (qD h'.l)∧VR P Z' H (fun _=>none) (q1G t x) u:=by
 unfold qCS at e;split at e
 case h_2=>cases e
 rename_i k off w;split at e
 case h_2=>cases e
 rename_i el w0 l hk
 cases hc:(!spec P el&&(Nat.beq off 0&&Nat.beq w l.length)) with
 | false=>rw[hc] at e;cases e
 | true =>
   rw[hc] at e;simp only[cond_true] at e;rw[zNT,zOE] at hc;obtain⟨hsp,hc⟩:=hc;rw[zNT] at hc;have h1:off=0:=zNU hc.1;have h2:w=l.length:=zNU hc.2;subst h1 h2;split at e
   case h_2=>cases e
   rename_i y zEU h2 hd;cases e;have hd0:=gZ (k:=k) ho;obtain⟨a1,a2,a3,ys,a4,a5⟩:=qBH hd0.2 (qI hd0.1 (ho.cells _ _ _ _ hk)) hd;refine⟨hd0.1.trans a2,a3,fun Z H m u hp hv=>?_⟩;have hkp:=zP hk;have zE3:real (SO.cells el w0 l).enc:=fun q=>by cases q.1
   obtain⟨w1,w2,w3,vs,q1,q2,q3⟩:=hp.real hkp zE3 hsp;have hcut:=Fz.del hp hkp zE3;have hfz:=a4 [] (qD h'.l) (by simp[qC,sN]);rw[zPN] at hfz;rw[show qD (h.del k).l=nC k (qD h.l) from gP k _] at hfz;obtain⟨Z2,c2,r2⟩:=qAW (fun a b c=>qJT 4 a b c) hcut.hp (hcut.vrl q2) hfz;refine⟨Z2,hcut.trans c2,?_⟩;simp only[SV.enc] at hv
   cases hv with
   | ref g1 g2 =>
     obtain⟨_,g3⟩:=g2 _ _ (qO hkp);obtain⟨rfl,_⟩:=g3 (by simp[SO.enc,qV]);have hrt:=qEQ (P:=P) (M:=fun _=>none) (f:=rtC P) (ts:=vW P 8 el) (fun t x v h=>q30 h) (r2.map (P:=P) (M:=fun _=>none));have h5:=(a5 []).1;rw[zPN] at h5;rw[h5] at hrt
     have hrt:VRL P Z2 H (fun _=>none) ((t.cells x).map .f) vs:=by
      cases zEU <;> simpa [rtL] using hrt
     have hlen:(t.cells x).length=vs.length:=by have:=hrt.len;simpa using this
     refine .lp (o:=0) (vs:=vs) (c2.zle _ (.inr rfl)) w1 ?_ ?_
     ·rw[hlen];exact xR q1 (by omega) (by simp)
     ·intro i y v hy hvv;have:=hrt.val i (.f y) v (by rw[zN9,hy];rfl) hvv
      cases this with
      | f h=>exact h
theorem qD6:∀ {ts:List Ty} {vs:List SV} {h:SH} {x:TyL ts} {h':SH},OkH P h->aJ P ts vs h=some (x,h') ->
 Keep h h'∧OkH P h'∧∀ (Z:Nat->Prop) (H:IH) (m:Nat->Nat) (us:List Value),Hp P Z H (own m (qD h.l))->VRL P Z H (own m (qD h.l)) (qC vs) us->∃ Z',Fz P Z H m (qD h.l) Z' (qD h'.l)∧VRL P Z' H (fun _=>none) (q5K ts x) us
 | [],[],h,x,h',ho,e=>by
   unfold aJ at e;cases e;refine⟨.refl _,ho,fun Z H m us hp hv=>⟨Z,.refl hp,?_⟩⟩;simp only[qC] at hv;rw[hv.zEK];exact .nil
 | [t],[v],h,x,h',ho,e=>by
   unfold aJ at e;obtain⟨a1,a2,a3⟩:=qA7 ho e;refine⟨a1,a2,fun Z H m us hp hv=>?_⟩;simp only[qC] at hv;obtain⟨u,us',rfl,b1,b2⟩:=hv.zEH;obtain⟨Z',c1,c2⟩:=a3 Z H m u hp b1;rw[b2.zEK];exact⟨Z',c1,.cons c2 .nil⟩
 | t::u::ts,v::vs,h,x,h',ho,e=>by
   unfold aJ at e;split at e
   case h_2=>cases e
   rename_i x1 h1 hd;split at e
   case h_2=>cases e
   rename_i y h2 hd2;cases e;obtain⟨a1,a2,a3⟩:=qA7 ho hd;obtain⟨b1,b2,b3⟩:=qD6 a2 hd2;refine⟨a1.trans b1,b2,fun Z H m us hp hv=>?_⟩;simp only[qC] at hv;obtain⟨w,us',rfl,d1,d2⟩:=hv.zEH;obtain⟨Z1,c1,c2⟩:=a3 Z H m w hp d1;obtain⟨Z2,f1,f2⟩:=b3 Z1 H m us' c1.hp (c1.vrl d2);exact⟨Z2,c1.trans f1,.cons (c2.mono (p:=fun _=>false) f1.zle (zNV _) (fun _ _ _=>rfl) (.refl _ _) fun j hj=>by cases hj) f2⟩
 | [],_::_,_,_,_,_,e=>by cases e
 | t::ts,[],_,_,_,_,e=>by cases ts <;> (unfold aJ at e;cases e)
 | [_],_::_::_,_,_,_,_,e=>by unfold aJ at e;cases e
def q2P (P:Program)(G:Nat->Bool)(f:FuncId)(ent:zEY):Prop:=entered P f=true∧∀ (x:TyL ent.as) (γ:Type) (stp:γ->TyL ent.ys->Option (γ×Bool)) (g0 g1:γ),ent.F x γ stp g0=some g1->∀ (w:Wld γ) (l:Nat),
 (∀ g y g' b,stp g y=some (g',b)->qKM P G w l g (pvL ent.ys y) g' b)->∀ (Z:Nat->Prop) (H:IH) (D:Nat->Prop) (us:List Value),(∀ b,Z b->b < H.size)->H.base<=H.size->q3I Z H->w.W g0 Z H D->VRL P Z H (fun _=>none) (q5K ent.as x) us ->
 uU P G f (.func (.yield l) #[] #[]::us) H fun r=>∃ Z' D',(∀ b,Z' b->b < r.2.size)∧w.W g1 Z' r.2 D'∧StW Z H D Z' r.2 D'
def q27 (P:Program)(G:Nat->Bool)(IT:List (FuncId×zEY)):Prop:=∀ f ent,slI f IT=some ent->q2P P G f ent
def qC0:List Nat->List SV->List SV->List SV
 | i::is,v::vs,env=>qC0 is vs (yT env i v)
 | _,_,env=>env
def noSh (sh:Sh):Bool:=sh.d.isEmpty&&(sh.s.isEmpty&&sh.v.isEmpty)
def qZZ (sh:Sh)(os:List (Nat×Bool))(ts:List Ty)(mk:TyL ts->Option (List SV×SH))(h1 hh:SH):vS Γ (GS Γ (TyL ts)×Bool):=fun e g env h=>match e with
 | .normal=>(match bk sh os ts mk h1 hh env h with
   | some s=>.ret (gj g s,true)
   | none=>.fail)
 | _=>.fail
def zCE {R:Type}(k:GV Γ->List SV->SH->zED R):vS Γ R:=fun e g env h=>match e with
 | .normal=>k g env h
 | _=>.fail
def rgN (nm:Nm)(l:List Nat):Nm:=⟨nm.b,fun k=>nm.p k&&!mY k l⟩
def q3Z (P:Program)(G:Nat->Bool)(IT:List (FuncId×zEY))(nm:Nm)(sh:Sh)(v:Operand)(ps:Array Tmp)(bx bY:Code)(x y:∀ {R':Type},Nm->GV Γ->List SV->SH->vS Γ R'->zED R')(g:GV Γ)(env:List SV)(h:SH)(K:vS Γ R):zED R :=
 qWQ P nm (sh.b.map (·.1)) sh.bv env h fun env h1=>match kF env v with
  | .fn f [] caps=>(match slI f IT with
    | some ent=>(match aJ P ent.as caps h1 with
      | some (z,h2)=>(match qSU sh.o h2,qYQ sh.b h2,q4S sh.o h2 with
        | some b,some c,some os=>(match zCL (b++c) with
          | some ts=>(match sW ts (b++c) with
            | some s0=>cond (noSh sh&&(mP (sh.b.map (·.1)) sh.b h2 h2&&(Nat.beq ps.size ent.ys.length&&(kW G v&&(codeOk G true bx&&codeOk G true bY)))))
               (goS (mkS P [] sh ts os env h2 s0) fun _ _=>.bind (ent.F z (GS Γ (TyL ts)) (fun s w=>(goS (mkS P [] sh ts os env h2 (g2 s)) fun e hh=>x (rgN nm (h2.l.map (·.1)++(os.map (·.1)++sh.b.map (·.1)))) (g1 s) (qC0 ps.toList (svL ent.ys w) e) hh
                 (zCE fun g3 e3 h3=>y (rgN nm (h2.l.map (·.1)++(os.map (·.1)++sh.b.map (·.1)))) g3 e3 h3 (qZZ sh os ts (mkS P [] sh ts os env h2) h2 hh))).run) (gj g s0))
                 fun q=>goS (mkS P [] sh ts os env h2 (g2 q)) fun e hh=>K .normal (g1 q) e hh) .fail
            | none=>.fail)
          | none=>.fail)
        | _,_,_=>.fail)
      | none=>.fail)
    | none=>.fail)
  | _=>.fail
omit [Yl] in
theorem qJQ:∀ (i:Nat) (l:List SV),blank [] i l=l
 | _,[]=>rfl
 | i,x::l=>by simp[blank,mY,qJQ (i+1) l]
omit [Yl] in
theorem qGP {sh:Sh}{ts:List Ty}{os:List (Nat×Bool)}{env e2:List SV}{h1 h2:SH}{s:TyL ts}(hn:noSh sh=true)(hm:mkS P [] sh ts os env h1 s=some (e2,h2)):e2=env:=by
 unfold noSh at hn;simp only[zNT,zRU] at hn;unfold mkS at hm;rw[hn.1,hn.2.1] at hm;split at hm
 ·split at hm
  ·split at hm
   ·rename_i e3 hss;cases hm;have:some (blank [] 0 env)=some e2:=hss;rw[qJQ] at this;exact (zOP this).symm
   ·cases hm
  ·cases hm
 ·cases hm
omit [Yl] in
theorem qIU:∀ (ps:List Nat) (vs env:List SV),(qC0 ps vs env).length=env.length
 | [],vs,env=>rfl
 | i::is,[],env=>rfl
 | i::is,v::vs,env=>by
   show (qC0 is vs (yT env i v)).length=_;rw[qIU is,jL]
omit [Yl] in
theorem qNY {h:SH}:∀ {ps:List Nat} {vs env:List SV},okL h vs->okL h env->okL h (qC0 ps vs env)
 | [],vs,env,_,he=>he
 | i::is,[],env,_,he=>he
 | i::is,v::vs,env,hv,he=>by
   simp only[okL] at hv;exact qNY (ps:=is) hv.2 (xH he hv.1)
theorem qKX {Z:Nat->Prop}{H:IH}{M:Nat->Option (Nat×PO)}:∀ {ps:List Nat} {vs env:List SV} {ws zEE:List Value},VRL P Z H M (qC vs) ws->VRL P Z H M (qC env) zEE->VRL P Z H M (qC (qC0 ps vs env)) ((ps.zip ws).foldl (fun e p=>yT e p.1 p.2) zEE)
 | [],vs,env,ws,zEE,_,he=>he
 | i::is,[],env,ws,zEE,hv,he=>by
   simp only[qC] at hv;rw[hv.zEK];exact he
 | i::is,v::vs,env,ws,zEE,hv,he=>by
   simp only[qC] at hv;obtain⟨w,ws',rfl,a1,a2⟩:=hv.zEH;show VRL P Z H M (qC (qC0 is vs (yT env i v))) ((is.zip ws').foldl (fun e p=>yT e p.1 p.2) (yT zEE i w));refine qKX a2 ?_;rw[kD,qZ,qZ];exact he.set a1 i
def rgW (P:Program)(wd:Wld (GV Γ))(env:List SV)(h0:SH)(zEE:Env)(H0:IH)(m0:Nat->Nat)(D0:Nat->Prop)(lp:Loop){S:Type}(mk:S->Option (List SV×SH)):Wld (GS Γ S) where
 W q Z H D:=∃ e hh m Dg,mk (g2 q)=some (e,hh)∧St P wd (g1 q) (qC env) (qD hh.l) Z H m zEE Dg∧H.get H0.size=some (.loop lp)∧H0.size < H.size∧¬ dF (own m (qD hh.l)) H0.size∧¬ Dg H0.size∧¬ Z H0.size ∧
  (∀ b,D b ↔ dF (own m (qD hh.l)) b∨Dg b∨b=H0.size)∧KR (fun _=>false) (own m0 (qD h0.l)) (own m (qD hh.l))∧(∀ b,dF (own m (qD hh.l)) b->b < H0.size->dF (own m0 (qD h0.l)) b)∧(∀ b,Dg b->b < H0.size->D0 b)∧H.base=H0.base
 lt:=by
  rintro g Z H D ⟨e,hh,m,Dg,a1,a2,a3,a4,a5,a6,a7,a8,_⟩ b hb;rcases (a8 b).1 hb with q | q | q
  ·exact (bI a2.hp q).1
  ·exact wd.lt a2.wd b q
  ·rw[q];exact a4
 nz:=by
  rintro g Z H D ⟨e,hh,m,Dg,a1,a2,a3,a4,a5,a6,a7,a8,_⟩ b hb;rcases (a8 b).1 hb with q | q | q
  ·exact (bI a2.hp q).2
  ·exact wd.nz a2.wd b q
  ·rw[q];exact a7
 keep:=by
  rintro g Z H D Z' H' ⟨e,hh,m,Dg,a1,a2,a3,a4,a5,a6,a7,a8,a9,a10,a11,a12⟩ hz hl hs hb hg hn;refine⟨e,hh,m,Dg,a1,a2.other hz hl hs hb (fun b h1 h2=>hg b h1 ?_) (fun b h=>hn b ((a8 b).2 ?_)),?_,zNY a4 hs,a5,a6,hn _ ((a8 _).2 (.inr (.inr rfl))),a8,a9,a10,a11,hb.trans a12⟩
  ·rcases h2 with q | q | q
   ·exact .inl ((a8 b).2 (.inl q))
   ·exact .inl ((a8 b).2 (.inr (.inl q)))
   ·exact .inr q
  ·rcases h with q | q
   ·exact .inl q
   ·exact .inr (.inl q)
  ·rw[hg _ a4 (.inl ((a8 _).2 (.inr (.inr rfl))))];exact a3
omit [Yl] in
theorem q5R {R:Type}{k:GV Γ->List SV->SH->zED R}{e:zFG}{g:GV Γ}{env:List SV}{h:SH}{r:R}(q:(zCE k e g env h).run=some r):e=.normal∧(k g env h).run=some r:=by
 cases e with
 | normal=>exact⟨rfl,q⟩
 | _=>cases q
omit [Yl] in
theorem qZI {sh:Sh}{os:List (Nat×Bool)}{ts:List Ty}{mk:TyL ts->Option (List SV×SH)}{h1 hh:SH}{e:zFG}{g:GV Γ}{env:List SV}{h:SH}{r:GS Γ (TyL ts)×Bool}(q:(qZZ sh os ts mk h1 hh e g env h).run=some r) :
 e=.normal∧∃ s,bk sh os ts mk h1 hh env h=some s∧r=(gj g s,true):=by
 cases e with
 | normal =>
   simp only[qZZ] at q;split at q
   ·rename_i s hs;cases q;exact⟨rfl,s,hs,rfl⟩
   ·cases q
 | _=>cases q
theorem q08 {sh:Sh}{ts:List Ty}{os:List (Nat×Bool)}{env:List SV}{h2:SH}{zEE:Env}{H0:IH}{m0:Nat->Nat}{D0:Nat->Prop}{lp:Loop}{bx bY:Code}{x y:∀ {R':Type},Nm->GV Γ->List SV->SH->vS Γ R'->zED R'}{wx wy:List Nat}{ent:zEY}{ks:List Nat}{hb:SH}
 (hx:∀ {R':Type} {nm:Nm} {g:GV Γ} {env:List SV} {h:SH} {K:vS Γ R'} {r:R'},OkH P h->okL h env->env.length=N->Keep hb h->(x nm g env h K).run=some r->qX P G true nm wd bx g (qC env) (qD h.l) (EQ P N wx env h K r))
 (hy:∀ {R':Type} {nm:Nm} {g:GV Γ} {env:List SV} {h:SH} {K:vS Γ R'} {r:R'},OkH P h->okL h env->env.length=N->Keep hb h->(y nm g env h K).run=some r->qX P G true nm wd bY g (qC env) (qD h.l) (EQ P N wy env h K r))
 (ho2:OkH P h2) (he2:okL h2 env) (hbh:Keep hb h2) (hl:env.length=N) (hn:noSh sh=true) (hos:os.map (·.1)=sh.o) (hks:∀ k,k ∉ ks->k ∉ os.map (·.1)∧k ∉ sh.b.map (·.1)∧slk k h2.l=none)
 (hr1:lp.state=.ready) (hr2:lp.pending=none) (hr3:lp.tmps.toList=zEE) (hr5:lp.assign=bx) (hr6:lp.body=bY) (hps:lp.params.size=ent.ys.length)
 {q q':GS Γ (TyL ts)} {w:TyL ent.ys} {b:Bool} (e:(goS (mkS P [] sh ts os env h2 (g2 q)) fun e hh=>x (rgN nm ks) (g1 q) (qC0 lp.params.toList (svL ent.ys w) e) hh (zCE fun g3 e3 h3=>y (rgN nm ks) g3 e3 h3 (qZZ sh os ts (mkS P [] sh ts os env h2) h2 hh))).run=some (q',b)) :
 qKM P G (rgW P wd env h2 zEE H0 m0 D0 lp (mkS P [] sh ts os env h2)) H0.size q (pvL ent.ys w) q' b:=by
 obtain⟨e2,hh,hm,hb2⟩:=nA e;have he:=qGP hn hm;subst he;intro Z H D ivs hz hbs hW hv;obtain⟨e',hh',m,Dg,a1,a2,a3,a4,a5,a6,a7,a8,a9,a10,a11,a12⟩:=hW;rw[hm] at a1;cases a1;obtain⟨m1,m2,m3,m4,m5,m6⟩:=uV ho2 he2 hm;have hlen:ivs.length=lp.params.size:=by rw[<-hv.len,<-qAZ,qV,qFA,hps]
 have zMD:okL hh (qC0 lp.params.toList (svL ent.ys w) e2):=qNY (qCH _ _) m3;refine qUB a3 hr1 hlen ?_;rw[hr5,hr3]
 have hs0:St P wd (g1 q) (qC (qC0 lp.params.toList (svL ent.ys w) e2)) (qD hh.l) Z H m ((lp.params.toList.zip ivs).foldl (fun e p=>yT e p.1 p.2) zEE) Dg:=by
  refine⟨a2.hp,qKX ?_ a2.vrl,a2.wd,a2.dis⟩;rw[qAZ];exact q5O hv
 refine (hx m2 zMD (by rw[qIU,m4,hl]) (hbh.trans m1) hb2 Z H m _ Dg hs0 hbs).mono ?_;rintro o ⟨Z2,m2',pe3,ph3,g3,D3,st3,sd3,kr3,e3,h3,rfl,rfl,k1,k2,k3,k0,k4,k5⟩;obtain⟨hoe,k5⟩:=q5R k5;have hl3:¬ dF (own m2' (qD h3.l)) H0.size:=fun h=>a5 (sd3.onew _ h a4)
 have hD3:¬ D3 H0.size:=fun h=>a6 (sd3.zFX _ h a4)
 have hZ3:¬ Z2 H0.size:=fun h=>by
  rcases sd3.zFE _ h a4 with q | q | q
  ·exact a7 q
  ·exact a5 q
  ·exact a6 q
 have hg3:o.H.get H0.size=some (.loop lp):=(sd3.keep _ a4 a5 a6).trans a3;refine⟨hoe,lp,hg3,hr1,?_⟩;subst hr6;have hlt3:H0.size < o.H.size:=zNY a4 sd3.size
 have st4:St P wd g3 (qC e3) (qD h3.l) Z2 (o.H.put H0.size (.loop { lp with state:=.busy })) m2' o.env D3:=by
  refine st3.other (fun _ h=>h) st3.hp.zlt (zNV _) rfl (fun b hb h=>xS fun e=>?_) (fun b h=>?_)
  ·subst e;rcases h with h | h | h
   ·exact hl3 h
   ·exact hD3 h
   ·exact hZ3 h
  ·rcases h with h | h
   ·exact (bI st3.hp h).2
   ·exact wd.nz st3.wd b h
 have hb4:(o.H.put H0.size (.loop { lp with state:=.busy })).base<=(o.H.put H0.size (.loop { lp with state:=.busy })).size:=by
  show o.H.base<=o.H.size;rw[sd3.base];exact zOH hbs sd3.size
 refine (hy k2 k1 k3 ((hbh.trans m1).trans k0) k5 Z2 _ m2' o.env D3 st4 hb4).mono ?_;rintro s ⟨Z5,m5',pe5,ph5,g5,D5,st5,sd5,kr5,e5,h5,rfl,rfl,l1,l2,l3,l0,l4,l5⟩;obtain⟨hse,s',hbk,hqe⟩:=qZI l5;cases hqe;have zH3:H0.size < (o.H.put H0.size (.loop { lp with state:=.busy })).size:=hlt3;have hg5:s.H.get H0.size=some (.loop { lp with state:=.busy }):=(sd5.keep _ zH3 hl3 hD3).trans (dA);have hl5:¬ dF (own m5' (qD h5.l)) H0.size:=fun h=>hl3 (sd5.onew _ h zH3)
 have hD5:¬ D5 H0.size:=fun h=>hD3 (sd5.zFX _ h zH3)
 have hZ5:¬ Z5 H0.size:=fun h=>by
  rcases sd5.zFE _ h zH3 with q | q | q
  ·exact hZ3 q
  ·exact hl3 q
  ·exact hD3 q
 have zME:H0.size < s.H.size:=zNY zH3 sd5.size;refine⟨_,hg5,?_,?_⟩
 ·rw[hse];rfl
 have hlp:({ ({ lp with state:=LoopState.busy }:Loop) with state:=if (yY s.e).isNone then LoopState.ready else LoopState.done,pending:=yY s.e }:Loop)=lp:=by
  rw[hse];cases lp;simp only at hr1 hr2;subst hr1 hr2;rfl
 show ∃ Z' D',(∀ b,Z' b->b < (s.H.put H0.size (.loop { ({ lp with state:=LoopState.busy }:Loop) with state:=if (yY s.e).isNone then LoopState.ready else LoopState.done,pending:=yY s.e })).size)∧(rgW P wd e2 h2 zEE H0 m0 D0 lp (mkS P [] sh ts os e2 h2)).W (gj g5 s') Z' (s.H.put H0.size (.loop { ({ lp with state:=LoopState.busy }:Loop) with state:=if (yY s.e).isNone then LoopState.ready else LoopState.done,pending:=yY s.e })) D'∧StW Z H D Z' (s.H.put H0.size (.loop { ({ lp with state:=LoopState.busy }:Loop) with state:=if (yY s.e).isNone then LoopState.ready else LoopState.done,pending:=yY s.e })) D';rw[hlp];unfold bk at hbk;split at hbk
 case h_2=>cases hbk
 rename_i a' b' c' ha' hb' hc';split at hbk
 case h_2=>cases hbk
 rename_i s2 hs2
 cases hc:(qSW os h5&&(qIP sh.s e5 h5&&(mP (sh.b.map (·.1)) sh.b h2 h5&&(dS (sh.o++sh.b.map (·.1)) hh h5&&(mkS P [] sh ts os e2 h2 s2).isSome)))) with
 | false=>rw[hc] at hbk;cases hbk
 | true =>
   rw[hc] at hbk;cases hbk;simp only[zNT] at hc;obtain⟨⟨e6,h6⟩,hm6⟩:=zOV.1 hc.2.2.2.2;have he6:=qGP hn hm6;subst he6
   have hsd:sh.d=[]:=by
    unfold noSh at hn;simp only[zNT,zRU] at hn;exact hn.1
   have hw2:qC (dI sh.d (svL ts s') (blank [] 0 e6)).2=qC (b'++c'):=by
    rw[hsd] at ha' ⊢;cases ha';exact (bB hs2).symm
   obtain⟨ho6,_,hsub⟩:=qOX l2 ho2 hb' hc' hw2 hm6 hos hc.1 hc.2.2.1 (fun k o hk hkb hk2=>oK m2 (k0.trans l0) hc.2.2.2.1 (by rw[zOZ,not_or];exact⟨hk,hkb⟩) (by rw[m6 k (by rw[hos];exact hk) hkb];exact hk2));obtain⟨_,_,_,_,_,n6⟩:=uV ho2 he2 hm6;have hfz:=Fz.drop st5.hp (qCU hsub)
   have keep:∀ b,b < H.size->¬ dF (own m (qD hh.l)) b->¬ Dg b->b≠H0.size->s.H.get b=H.get b:=fun b h1 h2 h3 h4=>by
    have g1:=sd3.keep b h1 h2 h3;have hb3:b < o.H.size:=zNY h1 sd3.size;have g2:(o.H.put H0.size (.loop { lp with state:=.busy })).get b=o.H.get b:=xS h4;exact (sd5.keep b hb3 (fun h=>h2 (sd3.onew b h h1)) fun h=>h3 (sd3.zFX b h h1)).trans (g2.trans g1)
   have hzk:∀ b,Z b->b < H.size->s.H.get b=H.get b:=fun b h1 h2=>keep b h2 (fun h=>(bI a2.hp h).2 h1) (fun h=>wd.nz a2.wd b h h1) fun e=>a7 (e ▸ h1)
   have hz5:∀ b,Z b->Z5 b:=fun b h=>sd5.zle b (sd3.zle b h)
   have hsz:H.size<=s.H.size:=zOH sd3.size sd5.size;have hbase:s.H.base=H.base:=sd5.base.trans sd3.base
   have hkr:KR (fun _=>false) (own m (qD hh.l)) (own m5' (qD h6.l)):=by
    refine KR.none ((kr3.trans kr5).trans (hfz.kr _)) fun k o hk=>?_
    rw[vH] at hk;obtain⟨o',q1,_⟩:=zN4.1 hk;show (nm.p k&&!mY k ks)=false
    cases hmm:mY k ks with
    | true=>simp
    | false =>
      exfalso;obtain⟨r1,r2,r3⟩:=hks k fun hm=>by rw[xM.2 hm] at hmm;cases hmm
      rw[n6 k r1 r2,r3] at q1;cases q1
   have zG9:∀ b,dF (own m5' (qD h6.l)) b->dF (own m5' (qD h5.l)) b:=fun b ⟨k,ob,h1,h2⟩=>⟨k,ob,hfz.zGT h1,h2⟩
   have zH4:∀ b,dF (own m5' (qD h6.l)) b->b < H.size->dF (own m (qD hh.l)) b:=fun b h1 h2=>sd3.onew b (sd5.onew b (zG9 b h1) (zNY h2 sd3.size)) h2
   have zJC:∀ b,D5 b->b < H.size->Dg b:=fun b h1 h2=>sd3.zFX b (sd5.zFX b h1 (zNY h2 sd3.size)) h2
   have st6:St P wd g5 (qC e6) (qD h6.l) Z5 s.H m5' zEE D5:=⟨hfz.hp,a2.vrl.mono (p:=fun _=>false) hz5 hsz hzk hkr (fun j hj=>by cases hj),st5.wd,fun b h1 h2=>st5.dis b h1 (zG9 b h2)⟩
   have st7:St P wd g5 (qC e6) (qD h6.l) Z5 (s.H.put H0.size (.loop lp)) m5' zEE D5:=by
    refine st6.other (fun _ h=>h) st6.hp.zlt (zNV _) rfl (fun b hb h=>xS fun e=>?_) (fun b h=>?_)
    ·subst e;rcases h with h | h | h
     ·exact hl5 (zG9 _ h)
     ·exact hD5 h
     ·exact hZ5 h
    ·rcases h with h | h
     ·exact (bI st6.hp h).2
     ·exact wd.nz st6.wd b h
   refine⟨Z5,fun b=>dF (own m5' (qD h6.l)) b∨D5 b∨b=H0.size,st6.hp.zlt,⟨e6,h6,m5',D5,by rw[q2K];exact hm6,by rw[q2R];exact st7,dA,zME,fun h=>hl5 (zG9 _ h),hD5,hZ5,fun b=>Iff.rfl,a9.trans hkr,fun b h1 h2=>a10 b (zH4 b h1 (Nat.lt_trans h2 a4)) h2,fun b h1 h2=>a11 b (zJC b h1 (Nat.lt_trans h2 a4)) h2,hbase.trans a12⟩,?_⟩;refine⟨hsz,hbase,hz5,fun b h1 _ h3=>?_,fun b h1 h2=>?_,fun b h1 _=>absurd h1 (qC5 b),fun b h1 h2=>?_⟩
   ·have hb:b≠H0.size:=fun e=>h3 ((a8 b).2 (.inr (.inr e)))
    exact (xS hb).trans (keep b h1 (fun h=>h3 ((a8 b).2 (.inl h))) (fun h=>h3 ((a8 b).2 (.inr (.inl h)))) hb)
   ·rcases sd5.zFE b h1 (zNY h2 sd3.size) with h | h | h
    ·rcases sd3.zFE b h h2 with h | h | h
     ·exact .inl h
     ·exact .inr (.inr ((a8 b).2 (.inl h)))
     ·exact .inr (.inr ((a8 b).2 (.inr (.inl h))))
    ·exact .inr (.inr ((a8 b).2 (.inl (sd3.onew b h h2))))
    ·exact .inr (.inr ((a8 b).2 (.inr (.inl (sd3.zFX b h h2)))))
   ·rcases h1 with h | h | h
    ·exact (a8 b).2 (.inl (zH4 b h h2))
    ·exact (a8 b).2 (.inr (.inl (zJC b h h2)))
    ·exact (a8 b).2 (.inr (.inr h))
theorem qS8 {IT:List (FuncId×zEY)}(s:zE8 P good nat G tab)(hit:q27 P G IT){sh:Sh}{v:Operand}{ps:Array Tmp}{bx bY:Code}{x y:∀ {R':Type},Nm->GV Γ->List SV->SH->vS Γ R'->zED R'}{wx wy:List Nat}{hb:SH}
 (hx:∀ {R':Type} {nm:Nm} {g:GV Γ} {env:List SV} {h:SH} {K:vS Γ R'} {r:R'},OkH P h->okL h env->env.length=N->Keep hb h->(x nm g env h K).run=some r->qX P G true nm wd bx g (qC env) (qD h.l) (EQ P N wx env h K r))
 (hy:∀ {R':Type} {nm:Nm} {g:GV Γ} {env:List SV} {h:SH} {K:vS Γ R'} {r:R'},OkH P h->okL h env->env.length=N->Keep hb h->(y nm g env h K).run=some r->qX P G true nm wd bY g (qC env) (qD h.l) (EQ P N wy env h K r))
 {g:GV Γ} {env:List SV} {h:SH} {K:vS Γ R} (ho:OkH P h) (he:okL h env) (hl:env.length=N) (hbh:Keep hb h) (e:(q3Z P G IT nm sh v ps bx bY x y g env h K).run=some r) :
 qX P G rd nm wd (.rangeFunc v ps bx bY) g (qC env) (qD h.l) (EQ P N [] env h K r):=by
 obtain⟨h1,wk1,kp1,ho1,e⟩:=qKU (nm:=nm) ho he e;refine qX.pre' wk1 ?_;split at e
 case h_2=>cases e
 rename_i f caps hval;split at e
 case h_2=>cases e
 rename_i ent hent;split at e
 case h_2=>cases e
 rename_i z h2 hdc;split at e
 case h_2=>cases e
 rename_i b c os hbO hcB hos;split at e
 case h_2=>cases e
 rename_i ts hts;split at e
 case h_2=>cases e
 rename_i s0 hs0;obtain⟨hck,e⟩:=qG e;simp only[zNT] at hck;obtain⟨hn,hbx,hps,hv,hcx,hcy⟩:=hck;obtain⟨_,hh0,hm0,e⟩:=nA e;obtain⟨q1,hF,e⟩:=run_bind e;obtain⟨eq,hq,hmq,eK⟩:=nA e;have he0:=qGP hn hm0;have heq:=qGP hn hmq;subst he0;subst heq;obtain⟨kp2,ho2,hfr⟩:=qD6 ho1 hdc;have he2:okL h2 eq:=qI (kp1.trans kp2) he;have zHH:=qGN hos;obtain⟨zKY,hIt⟩:=hit f ent hent;intro Z H m zEE D hs hbs;have hpv:=qM hs.vrl v;rw[qR,hval] at hpv;simp only[SV.enc,qC] at hpv;generalize hiv:zEE.val v=iv at hpv
 cases hpv with
 | fn hf hc hfc hcc =>
 rename_i fs cs
 have hfs:fs=#[]:=by
  have:fs.size=0:=by simpa using hf.symm
  exact zQ3 this
 subst hfs;obtain⟨Z1,c1,r1⟩:=hfr Z H m cs.toList hs.hp ⟨by simpa using hc,fun i x v a b=>hcc i x v a (by simpa using b)⟩;have hs2:St P wd g (qC eq) (qD h2.l) Z1 H m zEE D:=hs.step c1.hp (c1.vrl hs.vrl) c1.step
 have hw0:qC (dI sh.d (svL ts s0) (blank [] 0 eq)).2=qC (b++c):=by
  have hsd:sh.d=[]:=by
   unfold noSh at hn;simp only[zNT,zRU] at hn;exact hn.1
  rw[hsd];exact (bB hs0).symm
 obtain⟨ho0,_,zKZ⟩:=qOX ho2 ho2 hbO hcB hw0 hm0 zHH (qMU hos) hbx (fun k o _ _ hk=>zP hk);have zG5:=Fz.drop hs2.hp (qCU zKZ);refine s.s.zJP hv hcx hcy hiv zKY fun lp p1 p2 p3 p4 p5 p6=>?_
 have hHL:∀ b,b < H.size->(H.push (.loop lp)).get b=H.get b:=fun b hb=>jO hb
 have hown0:∀ b,dF (own m (qD hh0.l)) b->dF (own m (qD h2.l)) b:=fun b ⟨k,ob,h1,h2⟩=>⟨k,ob,zG5.zGT h1,h2⟩
 have hlo:¬ dF (own m (qD hh0.l)) H.size:=fun h=>zQ2 _ (bI zG5.hp h).1
 have hlD:¬ D H.size:=fun h=>zQ2 _ (wd.lt hs2.wd _ h)
 have hlZ:¬ Z1 H.size:=fun h=>zQ2 _ (c1.hp.zlt _ h)
 have st0:St P wd g (qC eq) (qD hh0.l) Z1 H m zEE D:=hs2.step zG5.hp (zG5.vrl hs2.vrl) zG5.step
 have st1:St P wd g (qC eq) (qD hh0.l) Z1 (H.push (.loop lp)) m zEE D:=by
  refine st0.other (fun _ h=>h) (fun b h=>zPG (c1.hp.zlt b h)) (zRB _) rfl (fun b hb _=>hHL b hb) fun b h=>?_
  rcases h with h | h
  ·exact (bI zG5.hp h).2
  ·exact wd.nz hs2.wd b h
 have hWi:(rgW P wd eq h2 zEE H m D lp (mkS P [] sh ts os eq h2)).W (gj g s0) Z1 (H.push (.loop lp)) fun b=>dF (own m (qD hh0.l)) b∨D b∨b=H.size :=
  ⟨eq,hh0,m,D,by rw[q2K];exact hm0,by rw[q2R];exact st1,gU,zOO _,hlo,hlD,hlZ,fun b=>Iff.rfl,zG5.kr _,fun b h _=>hown0 b h,fun b h _=>h,rfl⟩
 have hcall:=hIt z (GS Γ (TyL ts)) _ _ _ hF (rgW P wd eq h2 zEE H m D lp (mkS P [] sh ts os eq h2)) H.size (fun q w q' bb hstp=>by
  refine q08 (Γ:=Γ) (ent:=ent) hx hy ho2 he2 (hbh.trans (kp1.trans kp2)) hl hn zHH (ks:=h2.l.map (·.1)++(os.map (·.1)++sh.b.map (·.1))) (fun k hk=>?_) p1 p2 p3 p5 p6 ?_ (by rw[p4];exact hstp)
  ·simp only[zOZ,not_or] at hk;refine⟨hk.2.1,hk.2.2,?_⟩
   cases hq:slk k h2.l with
   | none=>rfl
   | some o=>exact absurd (zOJ.2 ⟨(k,o),qLH hq,rfl⟩) hk.1
  ·rw[p4];exact zNU hps) Z1 (H.push (.loop lp)) _ cs.toList (fun b h=>zPG (c1.hp.zlt b h)) (zOH hbs (zRB _)) (c1.hp.gl.mono c1.hp.zlt (fun _ h=>h) fun b _ hb=>hHL b hb) hWi (r1.none (fun _ h=>h) (zRB _) (fun b hz hb=>hHL b hb) fun _=>rfl)
 refine⟨_,hcall,?_⟩;rintro⟨rv,H'⟩ ⟨Z',D',b1,⟨e5,h5,m5,Dg,a1,a2,a3,a4,a5,a6,a7,a8,a9,a10,a11,a12⟩,sw⟩;rw[hmq] at a1;cases a1;refine q0B a3 p1 p2 fun lp'=>?_
 obtain⟨n1,n2,n3,n4,n5,n6⟩:=uV ho2 he2 hmq;have zIV:Keep h hq:=(kp1.trans kp2).trans n1
 have stf:St P wd (Go.Sv.g1 q1) (qC eq) (qD hq.l) Z' (H'.put H.size (.loop lp')) m5 zEE Dg:=by
  refine a2.other (fun _ h=>h) b1 (zNV _) rfl (fun b hb h=>xS fun e=>?_) (fun b h=>?_)
  ·subst e;rcases h with h | h | h
   ·exact a5 h
   ·exact a6 h
   ·exact a7 h
  ·rcases h with h | h
   ·exact (bI a2.hp h).2
   ·exact wd.nz a2.wd b h
 have hsz:H.size<=H'.size:=zOH (zRB _) sw.size;refine⟨Z',m5,qC eq,qD hq.l,Go.Sv.g1 q1,Dg,stf,⟨hsz,a12,fun b h=>sw.zle b (c1.zle b h),fun b h1 h2 h3=>?_,fun b h1 h2=>?_,fun b h1 h2=>?_,fun b h1 h2=>a11 b h1 h2⟩,((c1.kr _).trans a9).up (fun k h=>by cases h),eq,hq,rfl,rfl,n3,n2,hl,zIV,fun _=>⟨n3,n2,zIV,fun _ _=>rfl,rfl⟩,eK⟩
 ·have hb:b≠H.size:=Nat.ne_of_lt h1;refine (xS hb).trans ((sw.keep b (zPG h1) (qC5 b) ?_).trans (hHL b h1));rintro (q | q | q)
  ·obtain⟨k,ob,w1,w2⟩:=hown0 b q;exact h2 ⟨k,ob,c1.zGT w1,w2⟩
  ·exact h3 q
  ·exact hb q
 ·rcases sw.zFE b h1 (zPG h2) with q | q | q
  ·rcases c1.zFE b q with q | q
   ·exact .inl q
   ·exact .inr (.inl q)
  ·exact absurd q (qC5 b)
  ·rcases q with q | q | q
   ·obtain⟨k,ob,w1,w2⟩:=hown0 b q;exact .inr (.inl ⟨k,ob,c1.zGT w1,w2⟩)
   ·exact .inr (.inr q)
   ·exact absurd q (Nat.ne_of_lt h2)
 ·obtain⟨k,ob,w1,w2⟩:=a10 b h1 h2;exact⟨k,ob,c1.zGT w1,w2⟩
end
end Go.Sv
namespace Go.Sv
open Go.Idl
noncomputable section
variable [Gc]
variable [Frs]
variable [Yl]
variable {P:Program}{Γ:Option Type}{R:Type}{r:R}{nm:Nm}{G:Nat->Bool}{N:Nat}{rs:List Ty}{tab:uN}{nat:xK}{good:FuncId->Bool}{wd:Wld (GV Γ)}
def zA9 (an:An)(id:Nat):List (Nat×TypeId):=match lkA id an.fz with
 | some l=>l
 | none=>[]
def wr (an:An):Code->List Nat
 | .region id ops _=>(zA9 an id).map (·.1)++(ops.toList.filterMap (·.dst)++(zA9 an (id+1000000)).map (·.1))
 | .seq a b=>wr an a++wr an b
 | .cond _ a b=>wr an a++wr an b
 | .block id x=>match lkA id an.lp with
   | some sh=>lpW (wr an x) sh
   | none=>wr an x
 | .loop x=>wr an x
 | .scope x=>wr an x
 | _=>[]
def nx2:List Oper->Option (Operand×Nat×Nat)
 | [⟨some d1,.next x false,_,_,_,none⟩,⟨some d2,.extract (.tmp e1) 0,_,_,_,none⟩]=>cond (Nat.beq d1 e1) (some (x,d1,d2)) none
 | _=>none
def q9G (id:Nat)(body:∀ {R':Type},GV Γ->List SV->SH->vS Γ R'->zED R')(K:vS Γ R):Nat->GV Γ->List SV->SH->zED R
 | 0,_,_,_=>.fail
 | n+1,g,env,h=>body g env h fun e g env h=>match e with
   | .normal=>q9G id body K n g env h
   | .exit i=>cond (Nat.beq i id) (K .normal g env h) (K (.exit i) g env h)
   | .ret=>K .ret g env h
   | .goto _=>.fail
def shN (nm:Nm)(k:Nat):Nm:=⟨nm.b+k,nm.p⟩
def qT2 (id s:Nat)(body:∀ {R':Type},Nm->GV Γ->List SV->SH->vS Γ R'->zED R')(K:vS Γ R):Nat->Nm->GV Γ->List SV->SH->zED R
 | 0,_,_,_,_=>.fail
 | n+1,nm,g,env,h=>body nm g env h fun e g env h=>match e with
   | .normal=>qT2 id s body K n (shN nm s) g env h
   | .exit i=>cond (Nat.beq i id) (K .normal g env h) (K (.exit i) g env h)
   | .ret=>K .ret g env h
   | .goto _=>.fail
def zD6:List (Nat×TypeId)->Nat
 | (s,_)::_=>s
 | []=>0
def zD7 (y:GV Γ->List SV->SH->vS Γ R->zED R)(K:vS Γ R):vS Γ R:=fun e g env h=>match e with
 | .normal=>y g env h K
 | e=>K e g env h
def zD4 (K:vS Γ R):vS Γ R:=fun e g env h=>match e with
 | .goto _=>.fail
 | e=>K e g env h
def frC:Code->Option Nat
 | .region id _ _=>some id
 | .seq a _=>frC a
 | .scope x=>frC x
 | .block _ x=>frC x
 | .loop x=>frC x
 | _=>none
def jnR (an:An):Code->Option zG1
 | .region id _ _=>lkA (id+2000000) an.jn
 | _=>none
def jnE (an:An)(a b:Code):Option zG1:=match jnR an a with
 | some j=>some j
 | none=>(match frC b with
   | some id=>lkA id an.jn
   | none=>none)
def zCJ:Operand->Nat
 | .tmp t=>t
 | _=>0
section
variable (P:Program)(G:Nat->Bool)(T:z8)(IT:List (FuncId×zEY))(CI:CIT)(Y:YI (GV Γ))(an:An)(rdv:List SV->SH->Option (TyL rs))(en:TyL rs->List SV)(hb:SH)
def ev:Code->{R:Type}->Bool->Nm->GV Γ->List SV->SH->vS Γ R->zED R
 | .skip,_,_,_,g,env,h,K=>K .normal g env h
 | .label _,_,_,_,g,env,h,K=>K .normal g env h
 | .ret,_,_,_,g,env,h,K=>K .ret g env h
 | .exit id,_,_,_,g,env,h,K=>K (.exit id) g env h
 | .seq a b,_,rd,nm,g,env,h,K=>(match jnE an a b with
   | some j=>q9W P (wr an a) j (fun {_}=>ev a rd nm) g env h fun g env h=>ev b rd nm g env h K
   | none=>ev a rd nm g env h (zD7 (ev b rd nm) K))
 | .cond v a b,_,rd,nm,g,env,h,K=>cond (kW G v) (match asB (kF env v) with
   | some t=>.ite t (ev a rd nm g env h K) (ev b rd nm g env h K)
   | none=>(match kF env v with
     | .bq=>.both (ev a rd nm g env h K) (ev b rd nm g env h K)
     | _=>.fail)) .fail
 | .region id ops d,_,rd,nm,g,env,h,K=>fzv P nm (zA9 an id) env h fun env h=>zCO P G T CI Y nm ops d g env h fun g env h=>fzv P nm (zA9 an (id+1000000)) env h fun env h=>K .normal g env h
 | .block id (.loop y),_,rd,nm,g,env,h,K=>(match lkA id an.lp with
   | some sh=>(match lkA id an.ab with
     | none=>q9K P nm (wr an y) (lpW (wr an y) sh) rdv en hb sh id (fun {_}=>ev y rd nm) g env h K
     | some _=>.fail)
   | none=>(match lkA (id+3000000) an.fz with
     | some l=>qT2 id (zD6 l) (fun {_} nm=>ev y rd nm) K 24 nm g env h
     | none=>q9G id (fun {_}=>ev y rd nm) K 24 g env h))
 | .block id x,_,rd,nm,g,env,h,K=>(match lkA id an.lp with
   | some _=>.fail
   | none=>ev x rd nm g env h (zDH id K))
 | .scope x,_,rd,nm,g,env,h,K=>ev x rd nm g env h (zD4 K)
 | .rangeFunc v ps x y,_,rd,nm,g,env,h,K=>(match lkA (zCJ v) an.rg with
   | some sh=>q3Z P G IT nm sh v ps x y (fun {_}=>ev x true) (fun {_}=>ev y true) g env h K
   | none=>.fail)
 | _,_,_,_,_,_,_,_=>.fail
end
theorem EQ.go {w w2:List Nat}{env zEJ:List SV}{h h1:SH}{K:vS Γ R}{e:zFG}{g:GV Γ}{pe:List PV}{ph:PHp}(a:xQ P w env h zEJ h1)(b:EQ P N w2 zEJ h1 K r e g pe ph):EQ P N (w++w2) env h K r e g pe ph:=by
 obtain⟨env',h',b1,b2,b3,b4,b5,b0,b6,b7⟩:=b;exact⟨env',h',b1,b2,b3,b4,b5,a.2.2.1.trans b0,fun hne=>a.trans (b6 hne),b7⟩
theorem EQ.up {w w2:List Nat}{env:List SV}{h:SH}{K:vS Γ R}{e:zFG}{g:GV Γ}{pe:List PV}{ph:PHp}(hw:∀ i∈w,i∈w2)(b:EQ P N w env h K r e g pe ph):EQ P N w2 env h K r e g pe ph:=by
 obtain⟨env',h',b1,b2,b3,b4,b5,b0,b6,b7⟩:=b;exact⟨env',h',b1,b2,b3,b4,b5,b0,fun hne=>(b6 hne).up hw,b7⟩
theorem EQ.now {w:List Nat}{env:List SV}{h:SH}{K:vS Γ R}{e:zFG}{g:GV Γ}(ho:OkH P h)(he:okL h env)(hl:env.length=N)(hk:(K e g env h).run=some r):EQ P N w env h K r e g (qC env) (qD h.l) :=
 ⟨env,h,rfl,rfl,he,ho,hl,.refl _,fun _=>(xQ.refl ho he).up fun i hi=>by (cases hi),hk⟩
theorem zB3 {id:Nat}{w:List Nat}{env:List SV}{h:SH}{K:vS Γ R}{e:zFG}{g:GV Γ}{pe:List PV}{ph:PHp}(b:EQ P N w env h (zDH id K) r e g pe ph):BQY id (EQ P N w env h K r) e g pe ph:=by
 obtain⟨env',h',b1,b2,b3,b4,b5,b0,b6,b7⟩:=b
 cases e with
 | normal=>exact BQY.go ⟨env',h',b1,b2,b3,b4,b5,b0,b6,b7⟩
 | ret=>exact BQY.rt ⟨env',h',b1,b2,b3,b4,b5,b0,b6,b7⟩
 | goto l=>exact⟨env',h',b1,b2,b3,b4,b5,b0,b6,b7⟩
 | exit i =>
   have b8:(cond (Nat.beq i id) (K .normal g env' h') (K (.exit i) g env' h')).run=some r:=b7
   cases hi:Nat.beq i id with
   | true =>
     rw[hi] at b8;have:=zNU hi;subst this;exact BQY.on ⟨env',h',b1,b2,b3,b4,b5,b0,fun _=>b6 fun h=>by (cases h),b8⟩
   | false =>
     rw[hi] at b8;exact BQY.ex (fun h=>by rw[h,aA] at hi;cases hi) ⟨env',h',b1,b2,b3,b4,b5,b0,b6,b8⟩
omit [Yl] in
theorem q13 {ops:List Oper}{i:Nat}(h:i ∉ ops.filterMap (·.dst)):some i ∉ ops.map (·.dst):=fun hm=>by
 obtain⟨o,h1,h2⟩:=zOJ.1 hm;exact h (zQB.2 ⟨o,h1,h2⟩)
def q73 (P:Program)(G:Nat->Bool)(T:z8)(IT:List (FuncId×zEY))(CI:CIT)(Y:YI (GV Γ))(an:An)(rdv:List SV->SH->Option (TyL rs))(en:TyL rs->List SV)(hb:SH)(N:Nat)(wd:Wld (GV Γ))(rd:Bool)(nm:Nm)(c:Code):Prop :=
 ∀ {R:Type} {g:GV Γ} {env:List SV} {h:SH} {K:vS Γ R} {r:R},OkH P h->okL h env->env.length=N->Keep hb h->(ev P G T IT CI Y an rdv en hb c rd nm g env h K).run=some r->qX P G rd nm wd c g (qC env) (qD h.l) (EQ P N (wr an c) env h K r)
theorem q63 {w:List Nat}{id:Nat}{y:Code}{hb:SH}{body:∀ {R':Type},GV Γ->List SV->SH->vS Γ R'->zED R'}{rd:Bool}
 (hbody:∀ {R':Type} {g:GV Γ} {env:List SV} {h:SH} {K:vS Γ R'} {r:R'},OkH P h->okL h env->env.length=N->Keep hb h->(body g env h K).run=some r->qX P G rd nm wd y g (qC env) (qD h.l) (EQ P N w env h K r))
 {g:GV Γ} {env:List SV} {h:SH} {K:vS Γ R} {n:Nat} (ho:OkH P h) (he:okL h env) (hl:env.length=N) (hbh:Keep hb h) (e:(q9G id (fun {_}=>body) K n g env h).run=some r) :
 qX P G rd nm wd (.block id (.loop y)) g (qC env) (qD h.l) (EQ P N w env h K r):=by
 refine qX.zI9 (fun n g1 pe ph=>∃ zEJ h1,pe=qC zEJ∧ph=qD h1.l∧okL h1 zEJ∧OkH P h1∧zEJ.length=N∧Keep h h1∧xQ P w env h zEJ h1∧(q9G id (fun {_}=>body) K n g1 zEJ h1).run=some r) ?_ (n:=n) ⟨env,h,rfl,rfl,he,ho,hl,.refl _,(xQ.refl ho he).up fun i hi=>by (cases hi),e⟩;rintro n1 g1 pe ph ⟨zEJ,h1,rfl,rfl,b3,b4,b5,b6,b7,b8⟩
 cases n1 with
 | zero=>cases b8
 | succ n1 =>
   unfold q9G at b8;refine (hbody b4 b3 b5 (hbh.trans b6) b8).mono ?_;rintro x g2 pe ph ⟨env',h',rfl,rfl,c3,c4,c5,c0,c6,c7⟩
   have up:x≠.ret->xQ P w env h env' h':=fun hne=>(b7.trans (c6 hne)).up fun i hi=>by
    rcases zOZ.1 hi with q | q <;> exact q
   cases x with
   | normal=>exact⟨n1,zOO _,env',h',rfl,rfl,c3,c4,c5,b6.trans c0,up fun h=>by (cases h),c7⟩
   | ret=>exact BQY.rt ⟨env',h',rfl,rfl,c3,c4,c5,b6.trans c0,fun hne=>absurd rfl hne,c7⟩
   | goto l=>cases c7
   | exit i =>
     have c8:(cond (Nat.beq i id) (K .normal g2 env' h') (K (.exit i) g2 env' h')).run=some r:=c7
     cases hi:Nat.beq i id with
     | true =>
       rw[hi] at c8;have:=zNU hi;subst this;exact BQY.on ⟨env',h',rfl,rfl,c3,c4,c5,b6.trans c0,fun _=>up fun h=>by (cases h),c8⟩
     | false =>
       rw[hi] at c8;exact BQY.ex (fun h=>by rw[h,aA] at hi;cases hi) ⟨env',h',rfl,rfl,c3,c4,c5,b6.trans c0,fun _=>up fun h=>by (cases h),c8⟩
theorem q41 {nm':Nm}{wd:Wld (GV Γ)}{rd:Bool}{c:Code}{g:GV Γ}{env:List PV}{ph:PHp}{Q:YQ (GV Γ)}(h:qX P G rd nm' wd c g env ph Q)(e:nm'.p=nm.p):qX P G rd nm wd c g env ph Q:=by
 have e2:inP nm'=inP nm:=e;unfold qX at h ⊢;rw[e2] at h;exact h
theorem q2C {sf:Nat}{w:List Nat}{id:Nat}{y:Code}{hb:SH}{body:∀ {R':Type},Nm->GV Γ->List SV->SH->vS Γ R'->zED R'}{rd:Bool}
 (hbody:∀ {R':Type} {nm':Nm} {g:GV Γ} {env:List SV} {h:SH} {K:vS Γ R'} {r:R'},OkH P h->okL h env->env.length=N->Keep hb h->(body nm' g env h K).run=some r->qX P G rd nm' wd y g (qC env) (qD h.l) (EQ P N w env h K r))
 {g:GV Γ} {env:List SV} {h:SH} {K:vS Γ R} {n:Nat} {nm1:Nm} (hnm:nm1.p=nm.p) (ho:OkH P h) (he:okL h env) (hl:env.length=N) (hbh:Keep hb h) (e:(qT2 id sf (fun {_}=>body) K n nm1 g env h).run=some r) :
 qX P G rd nm wd (.block id (.loop y)) g (qC env) (qD h.l) (EQ P N w env h K r):=by
 refine qX.zI9 (fun n g1 pe ph=>∃ zEJ h1,pe=qC zEJ∧ph=qD h1.l∧okL h1 zEJ∧OkH P h1∧zEJ.length=N∧Keep h h1∧xQ P w env h zEJ h1∧∃ nm2:Nm,nm2.p=nm.p∧(qT2 id sf (fun {_}=>body) K n nm2 g1 zEJ h1).run=some r) ?_ (n:=n) ⟨env,h,rfl,rfl,he,ho,hl,.refl _,(xQ.refl ho he).up fun i hi=>by (cases hi),nm1,hnm,e⟩;rintro n1 g1 pe ph ⟨zEJ,h1,rfl,rfl,b3,b4,b5,b6,b7,nm2,bp,b8⟩
 cases n1 with
 | zero=>cases b8
 | succ n1 =>
   unfold qT2 at b8;refine qX.mono (q41 (hbody b4 b3 b5 (hbh.trans b6) b8) bp) ?_;rintro x g2 pe ph ⟨env',h',rfl,rfl,c3,c4,c5,c0,c6,c7⟩
   have up:x≠.ret->xQ P w env h env' h':=fun hne=>(b7.trans (c6 hne)).up fun i hi=>by
    rcases zOZ.1 hi with q | q <;> exact q
   cases x with
   | normal=>exact⟨n1,zOO _,env',h',rfl,rfl,c3,c4,c5,b6.trans c0,up fun h=>by (cases h),shN nm2 sf,bp,c7⟩
   | ret=>exact BQY.rt ⟨env',h',rfl,rfl,c3,c4,c5,b6.trans c0,fun hne=>absurd rfl hne,c7⟩
   | goto l=>cases c7
   | exit i =>
     have c8:(cond (Nat.beq i id) (K .normal g2 env' h') (K (.exit i) g2 env' h')).run=some r:=c7
     cases hi:Nat.beq i id with
     | true =>
       rw[hi] at c8;have:=zNU hi;subst this;exact BQY.on ⟨env',h',rfl,rfl,c3,c4,c5,b6.trans c0,fun _=>up fun h=>by (cases h),c8⟩
     | false =>
       rw[hi] at c8;exact BQY.ex (fun h=>by rw[h,aA] at hi;cases hi) ⟨env',h',rfl,rfl,c3,c4,c5,b6.trans c0,fun _=>up fun h=>by (cases h),c8⟩
theorem qU5 {T:z8}{IT:List (FuncId×zEY)}{CI:CIT}{Y:YI (GV Γ)}{an:An}{rdv:List SV->SH->Option (TyL rs)}{en:TyL rs->List SV}{hb:SH}{rd:Bool}{id:Nat}{y:Code}(s:zE8 P good nat G tab)(hrd:zHG P nm N hb rdv en)
 (hY:q73 P G T IT CI Y an rdv en hb N wd rd nm y) (hYn:∀ nm',q73 P G T IT CI Y an rdv en hb N wd rd nm' y) (hZ:∀ rid ops t j z,y=.seq (.region rid ops false) (.seq (.cond (.tmp t) .skip (.exit j)) z)->q73 P G T IT CI Y an rdv en hb N wd rd nm z)
 {g:GV Γ} {env:List SV} {h:SH} {K:vS Γ R} (ho:OkH P h) (he:okL h env) (hl:env.length=N) (hbh:Keep hb h) (e:(ev P G T IT CI Y an rdv en hb (.block id (.loop y)) rd nm g env h K).run=some r) :
 qX P G rd nm wd (.block id (.loop y)) g (qC env) (qD h.l) (EQ P N (wr an (.block id (.loop y))) env h K r):=by
 have e1:=e;unfold ev at e1;split at e1
 ·rename_i sh hsh;have hw:wr an (.block id (.loop y))=lpW (wr an y) sh:=by simp only[wr,hsh]
  rw[hw];split at e1
  ·exact q07 hrd rfl hY ho he hl hbh e1
  ·cases e1
 ·rename_i hn;have hw:wr an (.block id (.loop y))=wr an y:=by simp only[wr,hn]
  rw[hw];split at e1
  ·exact q2C (nm1:=nm) (fun ho he hl hbh e=>hYn _ ho he hl hbh e) rfl ho he hl hbh e1
  ·exact q63 hY ho he hl hbh e1
theorem jH [zEZ P G]{T:z8}{IT:List (FuncId×zEY)}{CI:CIT}{Y:YI (GV Γ)}{an:An}{rdv:List SV->SH->Option (TyL rs)}{en:TyL rs->List SV}{hb:SH}(s:zE8 P good nat G tab)(ht:qP8 tab T)(hit:q27 P G IT)(hci:qT9 P G CI)(hy:YOk P G wd Y)(hrd:∀ nm,zHG P nm N hb rdv en) :
 ∀ (c:Code),(∀ rd nm,q73 P G T IT CI Y an rdv en hb N wd rd nm c)∧∀ a b,c=.seq a b->(∀ rd nm,q73 P G T IT CI Y an rdv en hb N wd rd nm b)∧∀ a' b',b=.seq a' b'->∀ rd nm,q73 P G T IT CI Y an rdv en hb N wd rd nm b'
 | .skip=>⟨fun rd nm {_ g env h K r} ho he hl hbh e=>.skip (.now ho he hl e),fun a b h=>by cases h⟩
 | .label _=>⟨fun rd nm {_ g env h K r} ho he hl hbh e=>.label (.now ho he hl e),fun a b h=>by cases h⟩
 | .ret=>⟨fun rd nm {_ g env h K r} ho he hl hbh e=>.ret (.now ho he hl e),fun a b h=>by cases h⟩
 | .exit id=>⟨fun rd nm {_ g env h K r} ho he hl hbh e=>.exit (.now ho he hl e),fun a b h=>by cases h⟩
 | .seq a b=>by
   refine⟨fun rd nm {_ g env h K r} ho he hl hbh e=>?_,fun a' b' hh=>by
    cases hh
    exact⟨(jH s ht hit hci hy hrd b).1,fun a2 b2 h2=>((jH s ht hit hci hy hrd b).2 a2 b2 h2).1⟩⟩
   unfold ev at e;split at e
   ·refine .seq ((q18 (fun e1=>(jH s ht hit hci hy hrd a).1 _ _ ho he hl hbh e1) ho he hl e).mono fun x g' pe ph hq=>?_);obtain⟨rfl,zEX,h2,rfl,rfl,b1,b2,b3,b4,b5⟩:=hq;show qX P G rd nm wd b g' _ _ _;exact ((jH s ht hit hci hy hrd b).1 _ _ b1 b2 b3 (hbh.trans b4.2.2.1) b5).mono fun x g' pe ph hq=>EQ.go b4 hq
   refine .seq (((jH s ht hit hci hy hrd a).1 _ _ ho he hl hbh e).mono fun x g' pe ph hq=>?_);obtain⟨env',h',b1,b2,b3,b4,b5,b0,b6,b7⟩:=hq
   cases x with
   | normal =>
     have b7:(ev P G T IT CI Y an rdv en hb b rd nm g' env' h' K).run=some r:=b7;subst b1 b2;show qX P G rd nm wd b g' _ _ _;refine ((jH s ht hit hci hy hrd b).1 _ _ b4 b3 b5 (hbh.trans b0) b7).mono fun x g' pe ph hq=>?_
     exact EQ.go (b6 fun h=>by (cases h)) hq
   | exit i=>exact⟨env',h',b1,b2,b3,b4,b5,b0,fun hne=>(b6 hne).up fun i hi=>zO5 _ hi,b7⟩
   | ret=>exact⟨env',h',b1,b2,b3,b4,b5,b0,fun hne=>absurd rfl hne,b7⟩
   | goto l=>exact⟨env',h',b1,b2,b3,b4,b5,b0,fun hne=>(b6 hne).up fun i hi=>zO5 _ hi,b7⟩
 | .cond v a b=>by
   refine⟨fun rd nm {_ g env h K r} ho he hl hbh e=>?_,fun a b h=>by cases h⟩;obtain⟨c1,e1⟩:=qG e;split at e1
   ·rename_i t hv;have hpv:qK (qC env) v=fvv (.bool t):=by rw[qR];exact pY hv
    rcases run_ite e1 with ⟨z,e2⟩ | ⟨z,e2⟩
    ·exact .cond c1 hpv (fun _=>((jH s ht hit hci hy hrd a).1 _ _ ho he hl hbh e2).mono fun x g pe ph hq=>hq.up fun i hi=>zO5 _ hi) (fun hf=>by rw[z] at hf;cases hf)
    ·exact .cond c1 hpv (fun hf=>by rw[z] at hf;cases hf) (fun _=>((jH s ht hit hci hy hrd b).1 _ _ ho he hl hbh e2).mono fun x g pe ph hq=>hq.up fun i hi=>zPR _ hi)
   ·split at e1
    case h_2=>cases e1
    rename_i hv;have hpv:qK (qC env) v=.bq:=by rw[qR,hv];simp[SV.enc]
    obtain⟨e2,e3⟩:=qY4 e1;exact .zKQ c1 hpv (((jH s ht hit hci hy hrd a).1 _ _ ho he hl hbh e2).mono fun x g pe ph hq=>hq.up fun i hi=>zO5 _ hi) (((jH s ht hit hci hy hrd b).1 _ _ ho he hl hbh e3).mono fun x g pe ph hq=>hq.up fun i hi=>zPR _ hi)
 | .region id ops d=>by
   refine⟨fun rd nm {_ g env h K r} ho he hl hbh e=>?_,fun a b h=>by cases h⟩;obtain⟨zEJ,h1,w1,q1,e1⟩:=qPV (nm:=nm) ho he e;refine qX.pre' w1 (qX.post ((q6J s ht hci hy q1.2.1 q1.1 e1).mono ?_));rintro x g' pe ph ⟨rfl,env',h',rfl,rfl,b3,b4⟩;obtain⟨zEX,h2,w2,q2,e2⟩:=qPV (nm:=nm) b3.2.1 b3.1 b4
   have b5:xQ P (ops.toList.filterMap (·.dst)) zEJ h1 env' h':=⟨b3.1,b3.2.1,b3.2.2.1,fun i hi=>b3.2.2.2.1 i (q13 hi),b3.2.2.2.2⟩
   have b6:=b5.trans q2;exact⟨qC zEX,qD h2.l,w2,EQ.go q1 ⟨zEX,h2,rfl,rfl,q2.1,q2.2.1,by rw[b6.2.2.2.2,q1.2.2.2.2,hl],b6.2.2.1,fun _=>b6,e2⟩⟩
 | .block id x=>by
   refine⟨fun rd nm {_ g env h K r} ho he hl hbh e=>?_,fun a b h=>by cases h⟩
   cases x with
   | loop y =>
     exact qU5 s (hrd nm) ((jH s ht hit hci hy hrd y).1 _ _) (fun nm'=>(jH s ht hit hci hy hrd y).1 _ nm') (fun rid ops t j z hz=>((jH s ht hit hci hy hrd y).2 _ _ hz).2 _ _ rfl _ _) ho he hl hbh e
   | _ =>
     all_goals
      have e1:=e;unfold ev at e1;split at e1
      ·cases e1
      ·rename_i hn;simp only[wr,hn];exact .block (((jH s ht hit hci hy hrd _).1 _ _ ho he hl hbh e1).mono fun x g pe ph hq=>zB3 hq)
 | .loop _=>⟨fun rd nm {_ _ _ _ _ _} _ _ _ _ e=>(by cases e),fun a b h=>by cases h⟩
 | .rangeFunc v ps x y=>by
   refine⟨fun rd nm {_ g env h K r} ho he hl hbh e=>?_,fun a b h=>by cases h⟩;unfold ev at e;split at e
   ·rename_i sh hsh;exact qS8 s hit (fun ho he hl hbh e=>(jH s ht hit hci hy hrd x).1 _ _ ho he hl hbh e) (fun ho he hl hbh e=>(jH s ht hit hci hy hrd y).1 _ _ ho he hl hbh e) ho he hl hbh e
   ·cases e
 | .scope x=>by
   refine⟨fun rd nm {_ g env h K r} ho he hl hbh e=>?_,fun a b h=>by cases h⟩;refine .scope (((jH s ht hit hci hy hrd x).1 _ _ ho he hl hbh e).mono fun ex g' pe ph hq=>?_);obtain⟨env',h',b1,b2,b3,b4,b5,b0,b6,b7⟩:=hq
   cases ex with
   | goto l=>cases b7
   | normal=>exact⟨fun _ h=>by (cases h),env',h',b1,b2,b3,b4,b5,b0,b6,b7⟩
   | ret=>exact⟨fun _ h=>by (cases h),env',h',b1,b2,b3,b4,b5,b0,b6,b7⟩
   | exit i=>exact⟨fun _ h=>by (cases h),env',h',b1,b2,b3,b4,b5,b0,b6,b7⟩
 | .goto _=>⟨fun rd nm {_ _ _ _ _ _} _ _ _ _ e=>(by cases e),fun a b h=>by cases h⟩
 | .refuse _=>⟨fun rd nm {_ _ _ _ _ _} _ _ _ _ e=>(by cases e),fun a b h=>by cases h⟩
theorem qZ7 [zEZ P G]{T:z8}{IT:List (FuncId×zEY)}{CI:CIT}{Y:YI (GV Γ)}{an:An}{rdv:List SV->SH->Option (TyL rs)}{en:TyL rs->List SV}{hb:SH}(s:zE8 P good nat G tab)(ht:qP8 tab T)(hit:q27 P G IT)(hci:qT9 P G CI)(hy:YOk P G wd Y)(hrd:∀ nm,zHG P nm N hb rdv en) :
 ∀ (c:Code) {R:Type} {rd:Bool} {nm:Nm} {g:GV Γ} {env:List SV} {h:SH} {K:vS Γ R} {r:R},OkH P h->okL h env->env.length=N->Keep hb h->(ev P G T IT CI Y an rdv en hb c rd nm g env h K).run=some r->qX P G rd nm wd c g (qC env) (qD h.l) (EQ P N (wr an c) env h K r) :=
 fun c {R rd nm g env h K r} ho he hl hbh e=>(jH s ht hit hci hy hrd c).1 rd nm ho he hl hbh e
end
end Go.Sv
namespace Go.Sv
open Go.Idl
noncomputable section
variable [Gc]
variable [Frs]
variable [Yl]
variable {P:Program}{R:Type}{r:R}{nm:Nm}{G:Nat->Bool}{N:Nat}{tab:uN}{good:FuncId->Bool}
def uM (P:Program)(ty:TypeId)(t:Ty):Bool:=match qPN P ty with
 | some true=>!t.one&&(match szT P ty with
   | some n=>Nat.beq n t.w
   | none=>false)
 | some false=>t.one
 | none=>false
omit [Yl] in
theorem qRT {ty:TypeId}{t:Ty}{x:t.sem}{ph:PHp}(e:uM P ty t=true):fO P ty (q1G t x) ph=some (t.pv x):=by
 unfold uM at e;show qME P ty (t.cells x) 0=_;unfold qME Ty.pv;split at e
 ·rename_i h1;rw[h1];simp only;split at e
  ·rename_i n hn;rw[hn];rw[zNT] at e;have h2:n=t.w:=zNU e.2;have h3:t.one=false:=by simpa using e.1
   subst h2;have h4:Nat.ble (0+t.w) (t.cells x).length=true:=zOA (by rw[t.zEN];omega);simp only[h4,cond_true,h3,cond_false,zPA];rw[zOL (by rw[t.zEN];exact zNV _)]
  ·rw[zNT] at e;cases e.2
 ·rename_i h1;rw[h1];simp only[e,cond_true];rw[Ty.cells_one e];rfl
 ·cases e
def qYP:ResultVar->Nat
 | .tmp t=>t
 | .cell a _=>a
def qSY:ResultVar->Option TypeId
 | .tmp _=>none
 | .cell _ ty=>some ty
def q8C (ty:TypeId)(v:SV)(h:SH):Bool:=match v with
 | .ref k _ _=>(match slk k h.l with
   | some (.cells el _ _)=>Nat.beq el ty
   | _=>false)
 | _=>false
theorem qXX {ty:TypeId}{t:Ty}{v:SV}{h:SH}{x:t.sem}{h':SH}(ho:OkH P h)(e:qCS P t v h=some (x,h'))(hel:q8C ty v h=true)(h1:t.one=false):rt1 P ty (t.pv x)=t.pv x:=by
 unfold qCS at e;unfold q8C at hel;split at e
 case h_2=>cases e
 rename_i k off w;split at e
 case h_2=>cases e
 rename_i el w0 l hk;simp only[hk] at hel;have hel:el=ty:=zNU hel;subst hel
 cases hc:(!spec P el&&(Nat.beq off 0&&Nat.beq w l.length)) with
 | false=>rw[hc] at e;cases e
 | true =>
   rw[hc] at e;simp only[cond_true] at e;split at e
   case h_2=>cases e
   rename_i y zEU h2 hd;cases e;have hd0:=gZ (k:=k) ho;obtain⟨a1,a2,a3,ys,a4,a5⟩:=qBH hd0.2 (qI hd0.1 (ho.cells _ _ _ _ hk)) hd;unfold Ty.pv;rw[h1];show PV.agg (rtL (rtC P) (vW P 8 el) ((t.cells x).map .f))=_;have:=(a5 []).2;rw[zPN] at this;rw[this];cases zEU <;> simp[rtL]
def olL:List TypeId->Ty->Option (List TypeId)
 | tys,.pair a b=>(match olL tys a with
   | some r=>olL r b
   | none=>none)
 | ty::tys,.ol _ _=>cond (Gc.ol ty) (some tys) none
 | [],.ol _ _=>none
 | tys,t=>cond t.nol (some (tys.drop t.w)) none
def zA2 (t:Ty)(v:SV):Option t.sem:=match v with
 | .lp t' [x] 0 0=>if e:t'=t then some (e ▸ x) else none
 | _=>none
omit [Yl] in
theorem qZX {t:Ty}{v:SV}{x:t.sem}(e:zA2 t v=some x):v=.lp t [x] 0 0:=by
 unfold zA2 at e;split at e
 ·rename_i t' y;split at e
  ·rename_i h;subst h;cases e;rfl
  ·cases e
 ·cases e
def q0V (P:Program)(c:Option TypeId)(ty:TypeId)(t:Ty)(v:SV)(h:SH):Option (t.sem×SH):=match c with
 | none=>q6H P ty t v h
 | some ty2=>match zA2 t v with
   | some x=>cond (uM P ty2 t&&(t.nol||(!t.one&&(olL (vW P 8 ty) t).isSome))) (some (x,h)) none
   | none=>cond (uM P ty2 t&&(t.nol||(!t.one&&q8C ty v h))) (qCS P t v h) none
def qHM (c:Option TypeId)(t:Ty)(x:t.sem):SV:=match c with
 | none=>t.sv x
 | some _=>.lp t [x] 0 0
def qIB (P:Program):List (Option TypeId)->List TypeId->(ts:List Ty)->List SV->SH->Option (TyL ts×SH)
 | [],_,[],[],h=>some ((),h)
 | c::cs,ty::_,[t],v::vs,h=>(match cs,vs with
   | [],[]=>q0V P c ty t v h
   | _,_=>none)
 | c::cs,ty::tys,t::u::ts,v::vs,h=>match q0V P c ty t v h with
   | some (x,h1)=>(match qIB P cs tys (u::ts) vs h1 with
     | some (y,h2)=>some ((x,y),h2)
     | none=>none)
   | none=>none
 | _,_,_,_,_=>none
def svM:List (Option TypeId)->(ts:List Ty)->TyL ts->List SV
 | _,[],_=>[]
 | c::_,[t],x=>[qHM c t x]
 | [],[t],x=>[t.sv x]
 | c::cs,t::u::ts,x=>qHM c t x.1::svM cs (u::ts) x.2
 | [],t::u::ts,x=>t.sv x.1::svM [] (u::ts) x.2
omit [Yl] in
theorem qXD {h:SH}(c:Option TypeId)(t:Ty)(x:t.sem):(qHM c t x).ok h:=by
 cases c with
 | none=>exact qKQ t x
 | some _=>simp[qHM,SV.ok]
omit [Yl] in
theorem qYH {h:SH}:∀ (cs:List (Option TypeId)) (ts:List Ty) (x:TyL ts),okL h (svM cs ts x)
 | _,[],_=>by simp[svM,okL]
 | c::_,[t],x=>by simp only[svM,okL];exact⟨qXD c t x,trivial⟩
 | [],[t],x=>by simp only[svM,okL];exact⟨qKQ t x,trivial⟩
 | c::cs,t::u::ts,x=>by
   show okL h (qHM c t x.1::svM cs (u::ts) x.2);simp only[okL];exact⟨qXD c t x.1,qYH cs (u::ts) x.2⟩
 | [],t::u::ts,x=>by
   show okL h (t.sv x.1::svM [] (u::ts) x.2);simp only[okL];exact⟨qKQ t x.1,qYH [] (u::ts) x.2⟩
omit [Yl] in
theorem qMD:∀ (cs:List (Option TypeId)) (ts:List Ty) (x:TyL ts),(svM cs ts x).length=ts.length
 | _,[],_=>by simp[svM]
 | c::_,[t],x=>rfl
 | [],[t],x=>rfl
 | c::cs,t::u::ts,x=>by
   show (qHM c t x.1::svM cs (u::ts) x.2).length=_;simp only[zOI,qMD cs (u::ts)]
 | [],t::u::ts,x=>by
   show (t.sv x.1::svM [] (u::ts) x.2).length=_;simp only[zOI,qMD [] (u::ts)]
theorem qQT (c:Option TypeId)(t:Ty)(x:t.sem)(Z:Nat->Prop)(H:IH)(M M':Nat->Option (Nat×PO))(v:Value)(h:VR P Z H M (qHM c t x).enc v):VR P Z H M' (qHM c t x).enc v:=by
 cases c with
 | none =>
   simp only[qHM,mZ] at h ⊢;exact bQ h (qU4 t x)
 | some _ =>
   simp only[qHM,SV.enc] at h ⊢
   cases h with
   | lp a b c d=>exact .lp a b c d
omit [Yl] in
theorem tK {ty:TypeId}:∀ (t:Ty) (x:t.sem) (c:FV),t.nol=true->c∈t.cells x->rt0 P ty (.f c)=.f c
 | .int _,x,c,_,h=>by simp only[Ty.cells,zO2] at h;subst h;rfl
 | .bool,x,c,_,h=>by simp only[Ty.cells,zO2] at h;subst h;rfl
 | .str,x,c,_,h=>by simp only[Ty.cells,zO2] at h;subst h;rfl
 | .raw,x,c,_,h=>by simp only[Ty.cells,zO2] at h;subst h;rfl
 | .nif,x,c,_,h=>by simp only[Ty.cells,zO2] at h;subst h;rfl
 | .list _ _,x,c,_,h=>by simp only[Ty.cells,zO2] at h;subst h;rfl
 | .unit,x,c,_,h=>by cases h
 | .pair a b,x,c,hn,h=>by
   have h:c∈a.cells x.1++b.cells x.2:=h;have hn:(a.nol&&b.nol)=true:=hn;rw[zNT] at hn;rcases zOZ.1 h with q | q
   ·exact tK a _ _ hn.1 q
   ·exact tK b _ _ hn.2 q
omit [Yl] in
theorem q3X {f:TypeId->PV->PV}:∀ {ts:List TypeId} {xs:List PV},(∀ t x,x∈xs->f t x=x)->rtL f ts xs=xs
 | [],xs,_=>by cases xs <;> rfl
 | t::ts,[],_=>rfl
 | t::ts,x::xs,h=>by
   show f t x::rtL f ts xs=_;rw[h t x zN1,q3X fun t y hy=>h t y (zNZ _ hy)]
omit [Yl] in
theorem q3R {ty:TypeId}(t:Ty)(x:t.sem)(hn:t.nol=true):rt1 P ty (t.pv x)=t.pv x:=by
 unfold Ty.pv
 cases ht:t.one with
 | true=>exact nI (by rw[ht,hn];rfl)
 | false =>
   show PV.agg (rtL (rtC P) (vW P 8 ty) ((t.cells x).map .f))=_;rw[q3X]
   ·rfl
   ·intro ty2 y hy;obtain⟨c,hc,rfl⟩:=zOJ.1 hy;unfold rtC;rw[tK t x c hn hc];cases Gc.ol ty2 <;> rfl
omit [Yl] in
theorem qTW {f:TypeId->PV->PV}:∀ {ts:List TypeId} {xs rest:List PV},(∀ t x,x∈xs->f t x=x)->rtL f ts (xs++rest)=xs++rtL f (ts.drop xs.length) rest
 | ts,[],rest,_=>by simp
 | [],x::xs,rest,_=>by simp[rtL]
 | t::ts,x::xs,rest,h=>by
   show f t x::rtL f ts (xs++rest)=_;rw[h t x zN1,qTW fun t y hy=>h t y (zNZ _ hy)];rfl
omit [Yl] in
theorem fG (t:Ty)(hn:t.nol=true){tys zEU:List TypeId}(h:olL tys t=cond t.nol (some (tys.drop t.w)) none)(e:olL tys t=some zEU)(x:t.sem)(rest:List PV):rtL (rtC P) tys ((t.cells x).map .f++rest)=(t.cells x).map .f++rtL (rtC P) zEU rest:=by
 have hd:zEU=tys.drop t.w:=by
  rw[h,hn] at e;cases e;rfl
 rw[qTW,hd,zN5,t.zEN];intro ty2 y hy;obtain⟨c,hc,rfl⟩:=zOJ.1 hy;unfold rtC;rw[tK t x c hn hc];cases Gc.ol ty2 <;> rfl
omit [Yl] in
theorem qTI:∀ (t:Ty) {tys zEU:List TypeId},olL tys t=some zEU->∀ (x:t.sem) (rest:List PV),rtL (rtC P) tys ((t.cells x).map .f++rest)=(t.cells x).map .f++rtL (rtC P) zEU rest
 | .pair a b,tys,zEU,e,x,rest=>by
   unfold olL at e;split at e
   ·rename_i r hr;show rtL (rtC P) tys ((a.cells x.1++b.cells x.2).map .f++rest)=(a.cells x.1++b.cells x.2).map .f++_;rw[zO0,zOT,qTI a hr,qTI b e,zOT]
   ·cases e
 | .ol el k,tys,zEU,e,x,rest=>by
   cases tys with
   | nil=>cases e
   | cons ty tys =>
     have e:cond (Gc.ol ty) (some tys) none=some zEU:=e
     cases ho:Gc.ol ty with
     | false=>rw[ho] at e;cases e
     | true =>
       rw[ho] at e;cases e;show rtC P ty (.f (fvo el k x))::rtL (rtC P) _ rest=.f (fvo el k x)::_;unfold rtC;rw[ho];rfl
 | .int k,tys,zEU,e,x,rest=>fG (.int k) rfl (by cases tys <;> rfl) e x rest
 | .bool,tys,zEU,e,x,rest=>fG .bool rfl (by cases tys <;> rfl) e x rest
 | .str,tys,zEU,e,x,rest=>fG .str rfl (by cases tys <;> rfl) e x rest
 | .raw,tys,zEU,e,x,rest=>fG .raw rfl (by cases tys <;> rfl) e x rest
 | .nif,tys,zEU,e,x,rest=>fG .nif rfl (by cases tys <;> rfl) e x rest
 | .list el u,tys,zEU,e,x,rest=>fG (.list el u) rfl (by cases tys <;> rfl) e x rest
 | .unit,tys,zEU,e,x,rest=>fG .unit rfl (by cases tys <;> rfl) e x rest
theorem qQF {c:Option TypeId}{ty:TypeId}{t:Ty}{v:SV}{h:SH}{x:t.sem}{h':SH}(ho:OkH P h)(hv:v.ok h)(e:q0V P c ty t v h=some (x,h')) :
 Keep h h'∧OkH P h'∧(∀ ty2,c=some ty2->uM P ty2 t=true)∧rt1 P ty (t.pv x)=t.pv x∧∀ (Z:Nat->Prop) (H:IH) (m:Nat->Nat) (u:Value),Hp P Z H (own m (qD h.l))->VR P Z H (own m (qD h.l)) v.enc u->∃ Z',Fz P Z H m (qD h.l) Z' (qD h'.l)∧VR P Z' H (fun _=>none) (qHM c t x).enc u:=by
 unfold q0V at e
 cases c with
 | none =>
   obtain⟨y,a1,a2,a3,a4,a5⟩:=qAT ho hv e;refine⟨a3,a4,fun _ h=>by (cases h),a5,fun Z H m u hp hu=>?_⟩;obtain⟨Z',c1,c2⟩:=qHU hp hu a1;refine⟨Z',c1,?_⟩;simp only[qHM,mZ];rw[<-a2];exact qDF c2
 | some ty2 =>
   simp only at e
   cases hlp:zA2 t v with
   | some y =>
     rw[hlp] at e;simp only at e;have hv2:=qZX hlp
     cases hcn:(uM P ty2 t&&(t.nol||(!t.one&&(olL (vW P 8 ty) t).isSome))) with
     | false=>rw[hcn] at e;cases e
     | true =>
       rw[hcn] at e;cases e;obtain⟨hc,hn⟩:uM P ty2 t=true∧(t.nol||(!t.one&&(olL (vW P 8 ty) t).isSome))=true:=by rwa [zNT] at hcn
       refine⟨.refl _,ho,fun _ h=>by cases h;exact hc,?_,fun Z H m u hp hu=>⟨Z,.refl hp,?_⟩⟩
       ·rcases Bool.or_eq_true_iff.1 hn with q | q
        ·exact q3R t _ q
        ·rw[zNT] at q;obtain⟨zEU,ht⟩:=zOV.1 q.2;have h1:t.one=false:=by simpa using q.1
         unfold Ty.pv;rw[h1];show PV.agg (rtL (rtC P) (vW P 8 ty) ((t.cells _).map .f))=_;have:=qTI (P:=P) t ht x [];rw[zPN] at this;rw[this];cases zEU <;> simp[rtL]
       ·rw[hv2] at hu;simp only[qHM,SV.enc] at hu ⊢
        cases hu with
        | lp a b c d=>exact .lp a b c d
   | none =>
   rw[hlp] at e;simp only at e
   cases hcn:(uM P ty2 t&&(t.nol||(!t.one&&q8C ty v h))) with
   | false=>rw[hcn] at e;cases e
   | true =>
     rw[hcn] at e;obtain⟨hc,hn⟩:uM P ty2 t=true∧(t.nol||(!t.one&&q8C ty v h))=true:=by rwa [zNT] at hcn
     have hrt:rt1 P ty (t.pv x)=t.pv x:=by
      rcases Bool.or_eq_true_iff.1 hn with q | q
      ·exact q3R t x q
      ·rw[zNT] at q;exact qXX ho e q.2 (by simpa using q.1)
     obtain⟨a1,a2,a3⟩:=qA7 ho e;refine⟨a1,a2,fun _ h=>by cases h;exact hc,hrt,fun Z H m u hp hu=>?_⟩;obtain⟨Z',c1,c2⟩:=a3 Z H m u hp hu;refine⟨Z',c1,?_⟩;simp only[qHM,SV.enc];simpa [q1G] using c2
structure zK0 (P:Program) (cs:List (Option TypeId)) (tys:List TypeId) (ts:List Ty) (vs:List SV) (h:SH) (x:TyL ts) (h':SH):Prop where
 keep:Keep h h'
 ok:OkH P h'
 fz:∀ (Z:Nat->Prop) (H:IH) (m:Nat->Nat) (us:List Value),Hp P Z H (own m (qD h.l))->VRL P Z H (own m (qD h.l)) (qC vs) us->∃ Z',Fz P Z H m (qD h.l) Z' (qD h'.l)∧VRL P Z' H (fun _=>none) (qC (svM cs ts x)) us
 any:∀ (Z:Nat->Prop) (H:IH) (M M':Nat->Option (Nat×PO)) (us:List Value),VRL P Z H M (qC (svM cs ts x)) us->VRL P Z H M' (qC (svM cs ts x)) us
 rt:rtL (rt1 P) tys (pvL ts x)=pvL ts x
 load:∀ (ph:PHp) (rv:List ResultVar) (env:List PV),rv.map qSY=cs->(rv.map fun r=>(zL env (qYP r)).getD .unk)=qC (svM cs ts x)->qGE P env ph rv=some (pvL ts x)
theorem zAI {c:Option TypeId}{t:Ty}{x:t.sem}(hc:∀ ty2,c=some ty2->uM P ty2 t=true){ph:PHp}{r:ResultVar}{env:List PV}(h1:qSY r=c)(h2:(zL env (qYP r)).getD .unk=(qHM c t x).enc):qY5 P env ph r=some (t.pv x):=by
 subst h1
 cases r with
 | tmp i =>
   show some ((zL env i).getD .unk)=_;rw[show (zL env i).getD .unk=_ from h2];simp[qSY,qHM,mZ]
 | cell a ty =>
   show fO P ty ((zL env a).getD .unk) ph=_;rw[show (zL env a).getD .unk=_ from h2];have:=qRT (x:=x) (ph:=ph) (hc ty rfl);simpa [qSY,qHM,SV.enc,q1G] using this
theorem qUW:∀ {cs:List (Option TypeId)} {tys:List TypeId} {ts:List Ty} {vs:List SV} {h:SH} {x:TyL ts} {h':SH},OkH P h->okL h vs->qIB P cs tys ts vs h=some (x,h')->zK0 P cs tys ts vs h x h'
 | [],tys,[],[],h,x,h',ho,hv,e=>by
   unfold qIB at e;cases e;refine⟨.refl _,ho,fun Z H m us hp hu=>⟨Z,.refl hp,?_⟩,fun Z H M M' us hu=>?_,(by cases tys <;> rfl),fun ph rv env h1 h2=>?_⟩
   ·simp only[qC] at hu;rw[hu.zEK];simp only[svM,qC];exact .nil
   ·simp only[svM,qC] at hu ⊢;rw[hu.zEK];exact .nil
   ·cases rv with
    | nil=>rfl
    | cons _ _=>cases h1
 | c::cs,ty::tys,[t],v::vs,h,x,h',ho,hv,e=>by
   unfold qIB at e;split at e
   case h_2=>cases e
   simp only[okL] at hv;obtain⟨a1,a2,a3,ar,a4⟩:=qQF ho hv.1 e;refine⟨a1,a2,fun Z H m us hp hu=>?_,fun Z H M M' us hu=>?_,?_,fun ph rv env h1 h2=>?_⟩
   ·simp only[qC] at hu;obtain⟨u,us',rfl,b1,b2⟩:=hu.zEH;obtain⟨Z',c1,c2⟩:=a4 Z H m u hp b1;rw[b2.zEK];simp only[svM,qC];exact⟨Z',c1,.cons c2 .nil⟩
   ·simp only[svM,qC] at hu ⊢;obtain⟨u,us',rfl,b1,b2⟩:=hu.zEH;rw[b2.zEK];exact .cons (qQT c t x _ _ _ _ _ b1) .nil
   ·show rt1 P ty (t.pv x)::rtL (rt1 P) tys []=[t.pv x];rw[ar];cases tys <;> rfl
   ·match rv,h1,h2 with
    | [r],h1,h2 =>
      simp only[zOC,zP3,zOQ,and_true] at h1;simp only[zOC,zP3,svM,qC,zOQ,and_true] at h2;unfold qGE;rw[zAI a3 h1 h2];rfl
 | c::cs,ty::tys,t::u::ts,v::vs,h,x,h',ho,hv,e=>by
   unfold qIB at e;simp only[okL] at hv;split at e
   case h_2=>cases e
   rename_i x1 h1 hd;split at e
   case h_2=>cases e
   rename_i y h2 hd2;cases e;obtain⟨a1,a2,a3,ar,a4⟩:=qQF ho hv.1 hd;have ih:=qUW a2 (qI a1 hv.2) hd2;have hsv:svM (c::cs) (t::u::ts) (x1,y)=qHM c t x1::svM cs (u::ts) y:=rfl;refine⟨a1.trans ih.keep,ih.ok,fun Z H m us hp hu=>?_,fun Z H M M' us hu=>?_,?_,fun ph rv env g1 g2=>?_⟩
   ·simp only[qC] at hu;obtain⟨w,us',rfl,b1,b2⟩:=hu.zEH;obtain⟨Z1,d1,d2⟩:=a4 Z H m w hp b1;obtain⟨Z2,f1,f2⟩:=ih.fz Z1 H m us' d1.hp (d1.vrl b2);rw[hsv];simp only[qC];exact⟨Z2,d1.trans f1,.cons (d2.mono (p:=fun _=>false) f1.zle (zNV _) (fun _ _ _=>rfl) (.refl _ _) fun j hj=>by cases hj) f2⟩
   ·rw[hsv] at hu ⊢;simp only[qC] at hu ⊢;obtain⟨w,us',rfl,b1,b2⟩:=hu.zEH;exact .cons (qQT c t x1 _ _ _ _ _ b1) (ih.any _ _ _ _ _ b2)
   ·show rt1 P ty (t.pv x1)::rtL (rt1 P) tys (pvL (u::ts) y)=t.pv x1::pvL (u::ts) y;rw[ar,ih.rt]
   ·cases rv with
    | nil=>cases g1
    | cons r rv =>
      rw[hsv] at g2;simp only[zOC,zOQ] at g1;simp only[zOC,qC,zOQ] at g2;unfold qGE;rw[zAI a3 g1.1 g2.1,ih.load ph rv env g1.2 g2.2];rfl
 | [],_,[],_::_,_,_,_,_,_,e=>by unfold qIB at e;cases e
 | [],[],[_],_,_,_,_,_,_,e=>by unfold qIB at e;cases e
 | [],[],_::_::_,_,_,_,_,_,_,e=>by unfold qIB at e;cases e
 | [],_::_,[_],_,_,_,_,_,_,e=>by unfold qIB at e;cases e
 | [],_::_,_::_::_,_,_,_,_,_,_,e=>by unfold qIB at e;cases e
 | _::_,[],[],_,_,_,_,_,_,e=>by unfold qIB at e;cases e
 | _::_,_::_,[],_,_,_,_,_,_,e=>by unfold qIB at e;cases e
 | _::_,[],[_],_,_,_,_,_,_,e=>by unfold qIB at e;cases e
 | _::_,[],_::_::_,_,_,_,_,_,_,e=>by unfold qIB at e;cases e
 | _::_,_::_,[_],[],_,_,_,_,_,e=>by unfold qIB at e;cases e
 | _::_,_::_,_::_::_,[],_,_,_,_,_,e=>by unfold qIB at e;cases e
def rdR (P:Program)(hb:SH)(zGM:List TypeId)(rs:List Ty)(rv:List ResultVar)(env:List SV)(h:SH):Option (TyL rs):=match qHJ (rv.map qYP) env with
 | some vs=>(match qIB P (rv.map qSY) zGM rs vs h with
   | some p=>cond (dS [] hb p.2) (some p.1) none
   | none=>none)
 | none=>none
def enR (N:Nat)(rv:List ResultVar)(rs:List Ty)(v:TyL rs):List SV:=(dI (rv.map qYP) (svM (rv.map qSY) rs v) (List.replicate N .unk)).1
omit [Yl] in
theorem qDP (h:SH):∀ (n:Nat),okL h (List.replicate n .unk)
 | 0=>by simp[okL]
 | n+1=>by rw[zPP];simp only[okL];exact⟨by simp[SV.ok],qDP h n⟩
theorem pW:∀ (n:Nat),qC (List.replicate n .unk)=List.replicate n .unk
 | 0=>by simp[qC]
 | n+1=>by rw[zPP,zPP];simp only[qC,pW n,SV.enc]
theorem qO6 {Z:Nat->Prop}{H:IH}{M:Nat->Option (Nat×PO)}{vals:List Value}:∀ {rl:List Nat} {l base:List SV} {ws:List Value},(∀ (j i:Nat),rl[j]?=some i->vals[i]?=ws[j]?)->VRL P Z H M (qC l) ws->VRL P Z H M (qC base) vals->VRL P Z H M (qC (dI rl l base).1) vals
 | [],l,base,ws,_,_,hb=>hb
 | i::is,[],base,ws,_,_,hb=>hb
 | i::is,c::l,base,ws,hc,hl,hb=>by
   simp only[qC] at hl;obtain⟨w,ws',rfl,h1,h2⟩:=hl.zEH;show VRL P Z H M (qC (dI is l (yT base i c)).1) vals;refine qO6 (ws:=ws') (fun j k hj=>by simpa using hc (j+1) k (by simpa using hj)) h2 ?_;rw[kD];exact hb.slot (v:=w) (by simpa using hc 0 i rfl) h1
theorem qNW {Z:Nat->Prop}{H:IH}{M:Nat->Option (Nat×PO)}{env:List SV}{vals:List Value}(hv:VRL P Z H M (qC env) vals):∀ {rl:List Nat} {vs:List SV},qHJ rl env=some vs->∃ ws,VRL P Z H M (qC vs) ws∧∀ (j i:Nat),rl[j]?=some i->vals[i]?=ws[j]?
 | [],vs,e=>by cases e;exact⟨[],by simp only[qC];exact .nil,fun j i h=>by simp at h⟩
 | i::is,vs,e=>by
   unfold qHJ at e;split at e
   ·rename_i v l hx hl;cases e;obtain⟨ws,h1,h2⟩:=qNW hv hl;have hx2:(qC env)[i]?=some v.enc:=by rw[<-qF,zA,hx];rfl
    obtain⟨w,hw,hr⟩:=hv.get hx2;refine⟨w::ws,by simp only[qC];exact .cons hr h1,fun j k hj=>?_⟩
    cases j with
    | zero=>simp at hj;subst hj;simpa using hw
    | succ j=>simpa using h2 j k (by simpa using hj)
   ·cases e
omit [Yl] in
theorem q56 {Z:Nat->Prop}{H:IH}{M:Nat->Option (Nat×PO)}{vals:List Value}:VRL P Z H M (List.replicate vals.length .unk) vals:=⟨by simp,fun i z v h1 h2=>by
 rw[zQI] at h1;split at h1
 ·cases h1;exact .unk
 ·cases h1⟩
omit [Yl] in
theorem qG4 {env:List SV}:∀ {rl:List Nat} {vs:List SV},qHJ rl env=some vs->∀ z∈vs,z∈env
 | [],vs,e,z,hz=>by cases e;cases hz
 | i::is,vs,e,z,hz=>by
   unfold qHJ at e;split at e
   ·rename_i v l hx hl;cases e;rcases zOF.1 hz with q | q
    ·subst q;rw[qF] at hx;exact zOX hx
    ·exact qG4 hl z q
   ·cases e
theorem qNE {hb:SH}{zGM:List TypeId}{rs:List Ty}{rv:List ResultVar}{env:List SV}{h:SH}{v:TyL rs}(ho:OkH P h)(he:okL h env)(e:rdR P hb zGM rs rv env h=some v) :
 ∃ vs h',qHJ (rv.map qYP) env=some vs∧zK0 P (rv.map qSY) zGM rs vs h v h'∧dS [] hb h'=true:=by
 unfold rdR at e;split at e
 case h_2=>cases e
 rename_i vs hvs;split at e
 case h_2=>cases e
 rename_i p hp;obtain⟨x,h'⟩:=p
 cases hc:dS [] hb h' with
 | false=>rw[hc] at e;cases e
 | true =>
   rw[hc] at e;cases e;exact⟨vs,h',hvs,qUW ho (zM.2 fun z hz=>zM.1 he z (qG4 hvs z hz)) hp,hc⟩
theorem qON {hb:SH}(hob:OkH P hb){zGM:List TypeId}{rs:List Ty}{rv:List ResultVar}:zHG P nm N hb (rdR P hb zGM rs rv) (enR N rv rs):=by
 refine⟨hob,fun env h v ho he hl hbh e=>?_,fun env h v ho he hbh e k o hk=>?_,fun v=>by unfold enR;rw[qFH,zQC],fun v h=>qNK (qYH _ rs v) (qDP h N)⟩
 ·obtain⟨vs,h',hvs,hd,hkp⟩:=qNE ho he e;intro Z H m vals hh hv;obtain⟨ws,h1,h2⟩:=qNW hv hvs;obtain⟨Z',c1,r2⟩:=hd.fz Z H m ws hh h1;have hdr:=Fz.drop c1.hp (ph':=qD hb.l) (qCU fun k o hk=>oK hob (hbh.trans hd.keep) hkp (by simp) hk);have hlen:vals.length=N:=by rw[<-hv.len,qV,hl]
  refine⟨Z',m,hdr.hp,?_,c1.step.trans hdr.step,(c1.kr _).trans (hdr.kr _)⟩;unfold enR;refine qO6 h2 (hd.any _ _ _ _ _ r2) ?_;rw[pW,<-hlen];exact q56
 ·obtain⟨vs,h',hvs,hd,hkp⟩:=qNE ho he e;have:=qOS hob (hbh.trans hd.keep) hkp (by simp) hk;exact hd.keep.same k o this (zNY (hob.ver k o hk) hbh.next)
omit [Yl] in
theorem zAS (t:Ty)(x:t.sem)(ph:PHp):fzP P ph (t.pv x)=some (t.pv x,ph):=by
 unfold Ty.pv
 cases t.one with
 | true=>rfl
 | false=>simp only[cond_false,fzP,tF]
omit [Yl] in
theorem q2Y {ph:PHp}:∀ {xs:List PV},(∀ y∈xs,fzP P ph y=some (y,ph))->fzA P xs ph=some (xs,ph)
 | [],_=>rfl
 | x::xs,h=>by
   simp only[fzA,h x zN1,q2Y fun y hy=>h y (zNZ _ hy)]
omit [Yl] in
theorem q6C (rs:List Ty)(x:TyL rs)(ph:PHp):fzR P ph (jF rs x)=some (jF rs x):=by
 have hm:∀ y∈pvL rs x,∃ (t:Ty) (z:t.sem),y=t.pv z:=fun y hy=>qCP hy
 unfold jF;generalize pvL rs x=l at hm
 have hz:∀ y∈l,fzP P ph y=some (y,ph):=fun y hy=>by
  obtain⟨t,z,rfl⟩:=hm y hy;exact zAS t z ph
 match l,hm,hz with
 | [],_,hz=>rfl
 | [v],hm,hz =>
   obtain⟨t,z,rfl⟩:=hm v zN1;have:=hz _ zN1;show fzR P ph (t.pv z)=some (t.pv z);unfold fzR;unfold Ty.pv at this ⊢
   cases ht:t.one with
   | true=>rw[ht] at this;simp only[cond_true] at this ⊢;rw[this]
   | false=>rw[ht] at this;simp only[cond_false] at this ⊢;rw[this]
 | a::b::l,_,hz =>
   show (match fzA P (a::b::l) ph with
    | some (ys,_)=>some (PV.tup ys)
    | none=>none)=_
   rw[q2Y hz];rfl
omit [Yl] in
theorem qMO (rs:List Ty)(x:TyL rs):q4W (jF rs x)=true:=by
 have hm:∀ y∈pvL rs x,qKG y=true:=fun y hy=>by
  obtain⟨t,z,rfl⟩:=qCP hy;exact qU4 t z
 have hm2:∀ y∈pvL rs x,∃ (t:Ty) (z:t.sem),y=t.pv z:=fun y hy=>qCP hy
 unfold jF;generalize pvL rs x=l at hm hm2
 match l,hm,hm2 with
 | [],_,_=>rfl
 | [v],hm,hm2 =>
   have h1:=hm v zN1;obtain⟨t,z,rfl⟩:=hm2 v zN1;show q4W (t.pv z)=true;unfold Ty.pv at h1 ⊢
   cases ht:t.one with
   | true=>rfl
   | false=>rw[ht] at h1;exact h1
 | a::b::l,hm,_=>exact zNW.2 hm
def qOD:List Nat->Bool
 | []=>true
 | i::l=>!mY i l&&qOD l
omit [Yl] in
theorem qQQ:∀ {rl:List Nat} {l base:List SV},qOD rl=true->rl.length=l.length->(∀ i∈rl,i < base.length)->∀ (j i:Nat),rl[j]?=some i->zL (dI rl l base).1 i=l[j]?
 | [],l,base,_,_,_,j,i,h=>by simp at h
 | k::is,[],base,_,hl,_,j,i,h=>by simp at hl
 | k::is,c::l,base,hn,hl,hb,j,i,h=>by
   unfold qOD at hn;rw[zNT] at hn
   have hk:k ∉ is:=fun hm=>by
    have:=xM.2 hm;rw[this] at hn;exact absurd hn.1 (by simp)
   show zL (dI is l (yT base k c)).1 i=_
   cases j with
   | zero =>
     simp at h;subst h;rw[qHE hk,qZ,qF,zON,if_pos rfl,if_pos (hb k zN1)];rfl
   | succ j =>
     have h2:is[j]?=some i:=by simpa using h
     rw[qQQ (rl:=is) (l:=l) hn.2 (by simpa using hl) (fun i hi=>by rw[jL];exact hb i (zNZ _ hi)) j i h2];rfl
def zCZ {rs:List Ty}(rdv:List SV->SH->Option (TyL rs)):vS none (TyL rs):=fun e _ env h=>match e with
 | .normal=>rdv env h
 | .ret=>rdv env h
 | _=>none
def nm0:Nm:=⟨0,fun _=>true⟩
def fnS (P:Program)(G:Nat->Bool)(T:z8)(IT:List (FuncId×zEY))(CI:CIT)(an:An)(as rs:List Ty)(fn:Func)(x:TyL as):Option (TyL rs):=match fn.body with
 | some c=>(ev (Γ:=none) P G T IT CI yi0 an (rdR P ⟨0,[]⟩ fn.resultTypes.toList rs fn.results.toList) (enR fn.ntmps fn.results.toList rs) ⟨0,[]⟩ c false nm0 () (svL as x++List.replicate (fn.ntmps - as.length) .unk) ⟨0,[]⟩ (zCZ (rdR P ⟨0,[]⟩ fn.resultTypes.toList rs fn.results.toList))).run
 | none=>none
def qRF (as rs:List Ty)(fn:Func):Bool:=match fn.body with
 | some _=>qOD (fn.results.toList.map qYP)&&(Nat.beq fn.results.toList.length rs.length&&(Nat.ble as.length fn.ntmps&&(fn.results.toList.map qYP).all fun i=>Nat.blt i fn.ntmps))
 | none=>false
omit [Yl] in
theorem Runs.zK1 {rd:Bool}{c:Code}{env:List PV}{ph:PHp}{Q:PQ}(h:Runs P G rd nm c env ph fun e pe p=>∃ pe' p',Wk P nm pe p pe' p'∧Q e pe' p'):Runs P G rd nm c env ph Q:=by
 intro Z H m zEE hp hb he;refine (h Z H m zEE hp hb he).mono ?_;rintro o ⟨Z',m',env',ph',a,b,c,d,pe',p',hw,e⟩;obtain⟨Z1,m1,a1,a2,a3,a4⟩:=hw Z' o.H m' o.env a b;exact⟨Z1,m1,pe',p',a1,a2,c.trans a3,d.trans a4,e⟩
theorem zBW:YOk P G (Γ:=GV none) zAV yi0:=fun g y g' b h=>by cases h
theorem q85 [zEZ P G]{nat:xK}{T:z8}{IT:List (FuncId×zEY)}{CI:CIT}{an:An}{as rs:List Ty}{g:FuncId}{fn:Func}(s:zE8 P good nat G tab)(ht:qP8 tab T)(hit:q27 P G IT)(hci:qT9 P G CI)(hfn:P.funcs[g]?=some fn)(hc:qRF as rs fn=true) :
 zDP P G g nm0 (enL as) (fnS P G T IT CI an as rs fn) (jF rs):=by
 unfold qRF at hc;split at hc
 case h_2=>cases hc
 rename_i c hbody;simp only[zNT] at hc;obtain⟨c1,c2,c3,c4⟩:=hc;refine⟨fn,c,hfn,hbody,fun x y hF=>⟨fn.ntmps,rfl,?_⟩⟩;unfold fnS at hF;rw[hbody] at hF;have hF:(ev (Γ:=none) P G T IT CI yi0 an (rdR P ⟨0,[]⟩ fn.resultTypes.toList rs fn.results.toList) (enR fn.ntmps fn.results.toList rs) ⟨0,[]⟩ c false nm0 () (svL as x++List.replicate (fn.ntmps - as.length) .unk) ⟨0,[]⟩ (zCZ (rdR P ⟨0,[]⟩ fn.resultTypes.toList rs fn.results.toList))).run=some y:=hF;have hal:as.length<=fn.ntmps:=zN3 c3
 have hlen:(svL as x++List.replicate (fn.ntmps - as.length) SV.unk).length=fn.ntmps:=by
  rw[zOG,qFA,zQC];omega
 have hrd:∀ nm,zHG P nm fn.ntmps ⟨0,[]⟩ (rdR P ⟨0,[]⟩ fn.resultTypes.toList rs fn.results.toList) (enR fn.ntmps fn.results.toList rs):=fun nm=>qON rR
 have zEL:(enL as).p x++List.replicate (fn.ntmps - ((enL as).p x).length) PV.unk=qC (svL as x++List.replicate (fn.ntmps - as.length) .unk):=by
  have:(enL as).p x=qC (svL as x):=(qAZ as x).symm;rw[dK,pW,this,qV,qFA]
 rw[zEL];have hrun:=qX.runs (qZ7 (Γ:=none) (wd:=zAV) s ht hit hci zBW hrd c rR (gV (qCH as x) (qDP _ _)) hlen (.refl _) hF);refine Runs.zK1 (hrun.mono ?_);rintro e pe ph ⟨env',h',rfl,rfl,k1,k2,k3,k0,k4,k5⟩
 obtain⟨he,hr⟩:(e=.normal∨e=.ret)∧rdR P ⟨0,[]⟩ fn.resultTypes.toList rs fn.results.toList env' h'=some y:=by
  cases e with
  | normal=>exact⟨.inl rfl,k5⟩
  | ret=>exact⟨.inr rfl,k5⟩
  | exit _=>cases k5
  | goto _=>cases k5
 obtain⟨_,_,_,hd,_⟩:=qNE k2 k1 hr;refine⟨_,_,(hrd nm0).wk _ _ _ k2 k1 k3 k0 hr,he,jF rs y,?_,q6C rs y _⟩;unfold wC;have hll:(fn.results.toList.map qYP).length=(svM (fn.results.toList.map qSY) rs y).length:=by rw[qMD,zN5];exact zNU c2
 have hl2:(fn.results.toList.map fun r=>(zL (qC (enR fn.ntmps fn.results.toList rs y)) (qYP r)).getD PV.unk)=qC (svM (fn.results.toList.map qSY) rs y):=by
  apply zPB;intro j;rw[zN9,zH (svM _ rs y),zN9]
  cases hj:fn.results.toList[j]? with
  | none =>
    have:(svM (fn.results.toList.map qSY) rs y)[j]?=none:=by
     rw[zQT] at hj ⊢;rw[zN5] at hll;omega
    rw[this];rfl
  | some rr =>
    have hg:=qQQ (l:=svM (fn.results.toList.map qSY) rs y) (base:=List.replicate fn.ntmps .unk) c1 hll (fun i hi=>by
     have:=zNW.1 c4 i hi;rw[zQC]
     exact zN3 this) j (qYP rr) (by rw[zN9,hj];rfl)
    simp only[zN8];rw[zA];unfold enR;rw[hg]
    have hlt:j < (svM (fn.results.toList.map qSY) rs y).length:=by
     rw[<-hll,zN5];exact (zN0.1 hj).1
    rw[zNX hlt];rfl
 rw[hd.load _ fn.results.toList _ rfl hl2];show some (qC2 (rtL (rt1 P) fn.resultTypes.toList (pvL rs y)))=some (jF rs y);rw[hd.rt];rfl
end
end Go.Sv
namespace Go.Sv
open Go.Idl
variable {P:Program}
def zC0 (s:ByteArray)(c:Int):Int:=s.foldl (fun n x=>if x==c.toNat.toUInt8 then n+1 else n) ((0:Nat):Int)
def zCI (s:ByteArray)(c:Int):Int:=match (List.range s.size).find? (fun i=>s[i]! == c.toNat.toUInt8) with
 | some i=>(i:Int)
 | none=>-1
def q3E (x y c:Int):Int:=Int.ofNat ((x.toNat+y.toNat+c.toNat) % 18446744073709551616)
def q3A (x y c:Int):Int:=Int.ofNat ((x.toNat+y.toNat+c.toNat) / 18446744073709551616)
def qS6 (x y c:Int):Int:=Int.ofNat ((x.toNat+18446744073709551616 - y.toNat - c.toNat) % 18446744073709551616)
def qXM (x y c:Int):Int:=Int.ofNat (cond (Nat.blt x.toNat (y.toNat+c.toNat)) 1 0)
def zC9 (fn:Func):Nat:=cond (fn.body.isNone&&fn.origin == "") (cond (fn.name == "internal/bytealg.CountString") 1 (cond (fn.name == "internal/bytealg.IndexByteString") 2 (cond (fn.name == "math/bits.Add64") 3 (cond (fn.name == "math/bits.Sub64") 4 0)))) 0
def q4K (P:Program)(g:FuncId):Nat:=match P.funcs[g]? with
 | some fn=>zC9 fn
 | none=>0
theorem qGT {P:Program}{g:FuncId}{n:Nat}(h:q4K P g=n+1):∃ fn,P.funcs[g]?=some fn∧fn.body=none∧fn.origin = "" ∧ qMR P g=true∧((n=0∧fn.name = "internal/bytealg.CountString")∨(n=1∧fn.name = "internal/bytealg.IndexByteString")∨(n=2∧fn.name = "math/bits.Add64")∨(n=3∧fn.name = "math/bits.Sub64")):=by
 unfold q4K at h;split at h
 case h_2=>cases h
 rename_i fn hfn;unfold zC9 at h
 cases hc:(fn.body.isNone&&fn.origin == "") with
 | false=>rw[hc] at h;cases h
 | true =>
   rw[hc] at h;simp only[cond_true] at h;rw[zNT] at hc
   have ho:fn.origin = "" := by simpa using hc.2
   have hb:fn.body=none:=by simpa using hc.1
   have hx:∀ s,fn.name=s->(s == "internal/abi.NoEscape")=false->qMR P g=true:=fun s hs h0=>by
    unfold qMR;rw[hfn];simp only;rw[hc.1,hs,h0];rfl
   refine⟨fn,hfn,hb,ho,?_⟩
   cases h1:(fn.name == "internal/bytealg.CountString") with
   | true =>
     rw[h1] at h
     have h1:fn.name = "internal/bytealg.CountString" := by simpa using h1
     have h:1=n+1:=h;exact⟨hx _ h1 (by decide),.inl ⟨by omega,h1⟩⟩
   | false =>
     rw[h1] at h
     cases h2:(fn.name == "internal/bytealg.IndexByteString") with
     | true =>
       rw[h2] at h
       have h2:fn.name = "internal/bytealg.IndexByteString" := by simpa using h2
       have h:2=n+1:=h;exact⟨hx _ h2 (by decide),.inr (.inl ⟨by omega,h2⟩)⟩
     | false =>
       rw[h2] at h
       cases h3:(fn.name == "math/bits.Add64") with
       | true =>
         rw[h3] at h
         have h3:fn.name = "math/bits.Add64" := by simpa using h3
         have h:3=n+1:=h;exact⟨hx _ h3 (by decide),.inr (.inr (.inl ⟨by omega,h3⟩))⟩
       | false =>
         rw[h3] at h
         cases h4:(fn.name == "math/bits.Sub64") with
         | true =>
           rw[h4] at h
           have h4:fn.name = "math/bits.Sub64" := by simpa using h4
           have h:4=n+1:=h;exact⟨hx _ h4 (by decide),.inr (.inr (.inr ⟨by omega,h4⟩))⟩
         | false=>rw[h4] at h;cases h
theorem dX {α β:Type}(s:Sem α)(g:α->Sem β):yE P (s >>= g)=(yE P s).bind fun a=>yE P (g a):=kG g s
theorem zBX:yE P program=some P:=rfl
theorem zB5 {q:Mark}:yE P (mark q)=some ():=rfl
theorem qAH {g:FuncId}{fn:Func}{e:Array Value->Sem Value}{vs:Array Value}{v:Value}(hfn:P.funcs[g]?=some fn)(hb:fn.body=none)(hn:(fn.name == "runtime.NumGoroutine")=false)(h1:Extern.findNext fn=none)(h2:Extern.find fn=some e)(h3:yE P (e vs)=some v) :
 yE P (callFunc g vs)=some (.value v):=by
 unfold callFunc;rw[dX,zBX,zOD,hfn];simp only[hn,zQA,if_false,hb,Option.isNone_none,if_true,h1,h2];rw[dX,zB5,zOD];show yE P (do pure (Next.value (<- e vs)))=_;rw[dX,h3];rfl
theorem qSR {fn:Func}(h:fn.name = "internal/bytealg.CountString")(ho:fn.origin = ""):Extern.findNext fn=none∧Extern.find fn=some Extern.BytealgCount.count:=by
 unfold Extern.findNext Extern.find;simp only[h,ho];exact⟨by kernel_rfl,by kernel_rfl⟩
theorem find_index {fn:Func}(h:fn.name = "internal/bytealg.IndexByteString")(ho:fn.origin = ""):Extern.findNext fn=none∧Extern.find fn=some Extern.BytealgIndexByte.indexByte:=by
 unfold Extern.findNext Extern.find;simp only[h,ho];exact⟨by kernel_rfl,by kernel_rfl⟩
theorem qUS {g:FuncId}{s:ByteArray}{c:Int}(h:q4K P g=1):qMR P g=true∧yE P (callFunc g #[.string s,.int .u8 c])=some (.value (.int .i64 (zC0 s c))):=by
 obtain⟨fn,h1,h2,h3,h4,h5⟩:=qGT (n:=0) h
 rcases h5 with ⟨_,h5⟩ | ⟨h6,_⟩ | ⟨h6,_⟩ | ⟨h6,_⟩
 ·obtain⟨a,b⟩:=qSR h5 h3;refine⟨h4,qAH h1 h2 (by rw[h5];decide) a b ?_⟩;show yE P (do let b <- Extern.Bytes.bytesOf (.string s);let c <- Extern.Bytes.asByte (.int .u8 c);pure (goInt (b.foldl (fun n x=>if x==c then n+1 else n) (0:Nat))))=_;rw[dX,show yE P (Extern.Bytes.bytesOf (.string s))=some s from rfl,zOD,dX,show yE P (Extern.Bytes.asByte (.int .u8 c))=some c.toNat.toUInt8 from rfl,zOD];rfl
 all_goals cases h6
theorem qT1 {g:FuncId}{s:ByteArray}{c:Int}(h:q4K P g=2):qMR P g=true∧yE P (callFunc g #[.string s,.int .u8 c])=some (.value (.int .i64 (zCI s c))):=by
 obtain⟨fn,h1,h2,h3,h4,h5⟩:=qGT (n:=1) h
 rcases h5 with ⟨h6,_⟩ | ⟨_,h5⟩ | ⟨h6,_⟩ | ⟨h6,_⟩
 ·cases h6
 rotate_left
 ·cases h6
 ·cases h6
 ·obtain⟨a,b⟩:=find_index h5 h3;refine⟨h4,qAH h1 h2 (by rw[h5];decide) a b ?_⟩
  show yE P (match (List.range s.size).find? (fun i=>s[i]! == c.toNat.toUInt8) with
   | some i=>pure (goInt i)
   | none=>pure (goInt (-1)))=_
  unfold zCI;cases (List.range s.size).find? (fun i=>s[i]! == c.toNat.toUInt8) <;> rfl
def zDA:Array Value->Sem Value:=fun args=>do
 let (x,y,c) <- Extern.MathBitsCarry.three "Add64" args
 pure (Extern.MathBitsCarry.pair ((x+y+c) % Extern.MathBitsCarry.m64) ((x+y+c) / Extern.MathBitsCarry.m64))
def zDG:Array Value->Sem Value:=fun args=>do
 let (x,y,b) <- Extern.MathBitsCarry.three "Sub64" args
 pure (Extern.MathBitsCarry.pair ((x+Extern.MathBitsCarry.m64 - y - b) % Extern.MathBitsCarry.m64) (if x < y+b then 1 else 0))
theorem q1D {fn:Func}(h:fn.name = "math/bits.Add64")(ho:fn.origin = ""):Extern.findNext fn=none∧Extern.find fn=some zDA:=by
 unfold Extern.findNext Extern.find;simp only[h,ho];exact⟨by kernel_rfl,by kernel_rfl⟩
theorem q1Q {fn:Func}(h:fn.name = "math/bits.Sub64")(ho:fn.origin = ""):Extern.findNext fn=none∧Extern.find fn=some zDG:=by
 unfold Extern.findNext Extern.find;simp only[h,ho];exact⟨by kernel_rfl,by kernel_rfl⟩
theorem qOW {n:String}{x y:Int}:∀ {c:Int},Nat.ble c.toNat 1=true->yE P (Extern.MathBitsCarry.three n #[.int .u64 x,.int .u64 y,.int .u64 c])=some (x.toNat,y.toNat,c.toNat)
 | .ofNat 0,_=>rfl
 | .ofNat 1,_=>rfl
 | .ofNat (n+2),h=>by
   have:=zN3 h;simp at this;omega
 | .negSucc m,_=>rfl
theorem q58 {g:FuncId}{x y c:Int}(h:q4K P g=3)(hc:Nat.ble c.toNat 1=true):qMR P g=true∧yE P (callFunc g #[.int .u64 x,.int .u64 y,.int .u64 c])=some (.value (.tuple #[.int .u64 (q3E x y c),.int .u64 (q3A x y c)])):=by
 obtain⟨fn,h1,h2,h3,h4,h5⟩:=qGT (n:=2) h
 rcases h5 with ⟨h6,_⟩ | ⟨h6,_⟩ | ⟨_,h5⟩ | ⟨h6,_⟩
 ·cases h6
 ·cases h6
 ·obtain⟨a,b⟩:=q1D h5 h3;refine⟨h4,qAH h1 h2 (by rw[h5];decide) a b ?_⟩;unfold zDA;rw[dX,qOW hc];rfl
 ·cases h6
theorem q6W {g:FuncId}{x y c:Int}(h:q4K P g=4)(hc:Nat.ble c.toNat 1=true):qMR P g=true∧yE P (callFunc g #[.int .u64 x,.int .u64 y,.int .u64 c])=some (.value (.tuple #[.int .u64 (qS6 x y c),.int .u64 (qXM x y c)])):=by
 obtain⟨fn,h1,h2,h3,h4,h5⟩:=qGT (n:=3) h
 rcases h5 with ⟨h6,_⟩ | ⟨h6,_⟩ | ⟨h6,_⟩ | ⟨_,h5⟩
 ·cases h6
 ·cases h6
 ·cases h6
 ·obtain⟨a,b⟩:=q1Q h5 h3;refine⟨h4,qAH h1 h2 (by rw[h5];decide) a b ?_⟩;unfold zDG;rw[dX,qOW hc];simp only[zOD];show some (Extern.MathBitsCarry.pair ((x.toNat+18446744073709551616 - y.toNat - c.toNat) % 18446744073709551616) (if x.toNat < y.toNat+c.toNat then 1 else 0))=_;unfold qS6 qXM Extern.MathBitsCarry.pair;by_cases hlt:x.toNat < y.toNat+c.toNat
  ·rw[if_pos hlt,show Nat.blt x.toNat (y.toNat+c.toNat)=true from zOA hlt];rfl
  ·rw[if_neg hlt,show Nat.blt x.toNat (y.toNat+c.toNat)=false from Bool.eq_false_iff.2 fun h=>hlt (zN3 h)];rfl
noncomputable section
variable [Gc]
class Hnd where
 ci:CIT
class zE5 (P:Program) (G:Nat->Bool) [Hnd]:Prop where
 ok:∀ [Yl],qT9 P G Hnd.ci
instance (priority:=low) zJS:Hnd:=⟨fun _ _ _ _ _ _=>.fail⟩
instance (priority:=low) hndOk0 {G:Nat->Bool}:@zE5 _ P G zJS:=by
 letI:Hnd:=zJS
 refine⟨fun {_}=>?_⟩;intro R nm f as h K r ho ha e;cases e
variable [Yl]{R:Type}{r:R}{G:Nat->Bool}
def zA5 (P:Program)(f:FuncId)(as:List SV)(h:SH)(K:SV->SH->zED R)(F:zED R):zED R:=match q4K P f,as with
 | 1,[x,y]=>(match asS x,asI y with
   | some s,some (.u8,c)=>K (.d (.int .i64) (zC0 s c)) h
   | _,_=>.fail)
 | 2,[x,y]=>(match asS x,asI y with
   | some s,some (.u8,c)=>K (.d (.int .i64) (zCI s c)) h
   | _,_=>.fail)
 | 3,[x,y,z]=>(match asI x,asI y,asI z with
   | some (.u64,a),some (.u64,b),some (.u64,c)=>.ite (Nat.ble c.toNat 1) (K (.tup [.d (.int .u64) (q3E a b c),.d (.int .u64) (q3A a b c)]) h) .fail
   | _,_,_=>.fail)
 | 4,[x,y,z]=>(match asI x,asI y,asI z with
   | some (.u64,a),some (.u64,b),some (.u64,c)=>.ite (Nat.ble c.toNat 1) (K (.tup [.d (.int .u64) (qS6 a b c),.d (.int .u64) (qXM a b c)]) h) .fail
   | _,_,_=>.fail)
 | _,_=>F
end
end Go.Sv
namespace Go.Sv
open Go.Idl
noncomputable section
variable [Gc]
variable [Frs]
variable [Yl]
variable {P:Program}{G:Nat->Bool}{nm:Nm}{tab:uN}{nat:xK}{good:FuncId->Bool}{T:z8}{IT:List (FuncId×zEY)}
omit [Yl] in
theorem qYS {g:FuncId}{fn:Func}{c:Code}{N:Nat}{args:List PV}{ph:PHp}{R:PV->PHp->Prop}(hent:enters P g=true)(hfn:P.funcs[g]?=some fn)(hb:fn.body=some c)(hN:fn.ntmps=N)
 (h:Runs P G false nm c (args++List.replicate (N - args.length) .unk) ph fun e pe p=>(e=.normal∨e=.ret)∧∃ v,wC P fn pe p=some v∧R v p) :
 qCX P G nm g args ph R:=by
 refine .inr ⟨hent,fun Z H m zER hp hbs hv=>?_⟩;refine uU.of hfn hb hN ?_
 have zEL:VRL P Z H (own m ph) (args++List.replicate (N - args.length) .unk) (zER++List.replicate (N - zER.length) undef):=by
  rw[hv.len];refine VRL.append hv ⟨by simp,fun i z v h1 h2=>?_⟩;rw[zQI] at h1;split at h1
  ·cases h1;exact .unk
  ·cases h1
 refine (h Z H m _ hp hbs zEL).mono ?_;rintro o ⟨Z',m',env',ph',a1,b1,c1,d1,he,v,hr,hR⟩;refine⟨he,?_⟩;obtain⟨u,v1,v2⟩:=mG a1 b1 hr;exact⟨u,v1,Z',m',v,ph',a1,v2,c1,d1,hR⟩
def rtS (P:Program)(ty:TypeId):SV->Option SV
 | .d t x=>cond (t.one&&t.nol) (some (.d t x)) none
 | .c (.slice none 0 0)=>match zT P ty with
   | some el=>(match qDM P 8 el with
     | some t=>some (.d (.list el t) [])
     | none=>none)
   | none=>none
 | .c (.int k x)=>some (.c (.int k x))
 | .c .nilIface=>some (.c .nilIface)
 | .c (.bool b)=>some (.c (.bool b))
 | .c (.string b)=>some (.c (.string b))
 | .own k g n=>some (.own k g n)
 | .sl k g n o m=>some (.sl k g n o m)
 | .ref k o w=>some (.ref k o w)
 | .elt k g n w j o=>some (.elt k g n w j o)
 | .lp t xs j o=>some (.lp t xs j o)
 | .fn f a b=>some (.fn f a b)
 | _=>none
def zA1 (P:Program):List TypeId->List SV->Option (List SV)
 | ty::tys,v::l=>(match cond (Gc.ol ty) (some v) (rtS P ty v),zA1 P tys l with
   | some x,some y=>some (x::y)
   | _,_=>none)
 | [],l=>some l
 | _::_,[]=>some []
def zCU (P:Program)(ty:TypeId):SV->Option SV
 | .agg l=>(match zA1 P (vW P 8 ty) l with
   | some l'=>some (.agg l')
   | none=>none)
 | v=>rtS P ty v
theorem qN4 {ty:TypeId}{v v':SV}(e:rtS P ty v=some v'):(rt1 P ty v.enc=v'.enc∧rt0 P ty v.enc=v'.enc)∧∀ h,v.ok h->v'.ok h:=by
 unfold rtS at e;split at e
 ·rename_i t x
  cases ht:(t.one&&t.nol) with
  | true =>
    rw[ht] at e;cases e
    refine⟨⟨?_,?_⟩,fun h hv=>hv⟩ <;>
    ·simp only[SV.enc];exact nI ht
  | false=>rw[ht] at e;cases e
 ·split at e
  ·rename_i el hel;split at e
   ·rename_i t ht;cases e
    refine⟨⟨?_,?_⟩,fun h _=>by simp[SV.ok]⟩ <;>
    ·simp only[SV.enc,fvv]
     show (match zT P ty with
      | some el=>PV.f (.l el 0 [])
      | none=>fvv (.slice none 0 0))=_
     rw[hel];rfl
   ·cases e
  ·cases e
 all_goals first
  | (cases e;exact⟨⟨by simp only[SV.enc];rfl,by simp only[SV.enc];rfl⟩,fun h hv=>hv⟩)
  | cases e
theorem qXB:∀ {tys:List TypeId} {l l':List SV},zA1 P tys l=some l'->rtL (rtC P) tys (qC l)=qC l'∧∀ h,okL h l->okL h l'
 | [],l,l',e=>by
   have e:some l=some l':=by cases l <;> exact e
   cases e;exact⟨by cases qC l <;> rfl,fun _ h=>h⟩
 | ty::tys,[],l',e=>by
   cases e;exact⟨by simp[qC,rtL],fun _ h=>h⟩
 | ty::tys,v::l,l',e=>by
   unfold zA1 at e;split at e
   ·rename_i x y hx hy;cases e;obtain⟨b1,b2⟩:=qXB hy
    have hv:rtC P ty v.enc=x.enc∧∀ h,v.ok h->x.ok h:=by
     unfold rtC
     cases hc:Gc.ol ty with
     | true=>rw[hc] at hx;cases hx;exact⟨rfl,fun _ h=>h⟩
     | false=>rw[hc] at hx;exact⟨(qN4 hx).1.2,(qN4 hx).2⟩
    refine⟨?_,fun h hl=>?_⟩
    ·simp only[qC,rtL,hv.1,b1]
    ·simp only[okL] at hl ⊢;exact⟨hv.2 h hl.1,b2 h hl.2⟩
   ·cases e
theorem q4A {ty:TypeId}{v v':SV}(e:zCU P ty v=some v'):rt1 P ty v.enc=v'.enc∧∀ h,v.ok h->v'.ok h:=by
 unfold zCU at e;split at e
 ·rename_i l;split at e
  ·rename_i l' hl;cases e;obtain⟨a1,a2⟩:=qXB hl;refine⟨?_,fun h hv=>?_⟩
   ·simp only[SV.enc];show PV.agg (rtL (rtC P) (vW P 8 ty) (qC l))=_;rw[a1]
   ·simp only[SV.ok] at hv ⊢;exact a2 h hv
  ·cases e
 ·exact⟨(qN4 e).1.1,(qN4 e).2⟩
def q7W (P:Program):List TypeId->List SV->Option (List SV)
 | _,[]=>some []
 | ty::tys,v::l=>(match zCU P ty v,q7W P tys l with
   | some x,some y=>some (x::y)
   | _,_=>none)
 | [],_::_=>none
theorem qV6:∀ {tys:List TypeId} {l l':List SV},q7W P tys l=some l'->rtL (rt1 P) tys (qC l)=qC l'∧∀ h,okL h l->okL h l'
 | tys,[],l',e=>by
   have:some []=some l':=by cases tys <;> exact e
   cases this;exact⟨by cases tys <;> simp[qC,rtL],fun h hl=>hl⟩
 | ty::tys,v::l,l',e=>by
   unfold q7W at e;split at e
   ·rename_i x y hx hy;cases e;obtain⟨a1,a2⟩:=q4A hx;obtain⟨b1,b2⟩:=qV6 hy;refine⟨?_,fun h hl=>?_⟩
    ·simp only[qC,rtL,a1,b1]
    ·simp only[okL] at hl ⊢;exact⟨a2 h hl.1,b2 h hl.2⟩
   ·cases e
 | [],_::_,_,e=>by cases e
def qSX:List SV->SV
 | [v]=>v
 | vs=>.tup vs
def zCX {R:Type}(P:Program)(zGM:List TypeId)(rl:List Nat)(K:SV->SH->zED R):vS none R:=fun e _ env h=>match e with
 | .normal=>(match qHJ rl env with
   | some vs=>(match q7W P zGM vs with
     | some ws=>K (qSX ws) h
     | none=>.fail)
   | none=>.fail)
 | .ret=>(match qHJ rl env with
   | some vs=>(match q7W P zGM vs with
     | some ws=>K (qSX ws) h
     | none=>.fail)
   | none=>.fail)
 | _=>.fail
def q4F:List ResultVar->Option (List Nat)
 | []=>some []
 | .tmp t::l=>(q4F l).map (t::·)
 | .cell _ _::_=>none
omit [Yl] in
theorem qKF {env:List PV}{ph:PHp}:∀ {l:List ResultVar} {rl:List Nat},q4F l=some rl->qGE P env ph l=some (rl.map fun t=>(zL env t).getD .unk)
 | [],rl,e=>by cases e;rfl
 | .tmp t::l,rl,e=>by
   obtain⟨rl',h1,rfl⟩:=zN4.1 e;simp only[qGE,qY5,qKF h1,zOC]
 | .cell _ _::_,rl,e=>by cases e
abbrev Ans:=List (FuncId×(An×List Ty))
def ciN [Hnd](P:Program)(G:Nat->Bool)(T:z8)(IT:List (FuncId×zEY))(ans:Ans):Nat->CIT
 | 0=>fun R nm f as h K=>zA5 P f as h K (Hnd.ci R nm f as h K)
 | n+1=>fun R nm f as h K=>match P.funcs[f]?,lkA f ans with
   | some fn,some (an,rs)=>(match fn.body,q4F fn.results.toList with
     | some c,some rl=>cond (enters P f&&Nat.ble as.length fn.ntmps) (ev (Γ:=none) P G T IT (ciN P G T IT ans n) yi0 an (rdR P h fn.resultTypes.toList rs fn.results.toList) (enR fn.ntmps fn.results.toList rs) h c false nm () (as++List.replicate (fn.ntmps - as.length) .unk) h (zCX P fn.resultTypes.toList rl K)) .fail
     | _,_=>.fail)
   | _,_=>zA5 P f as h K (Hnd.ci R nm f as h K)
theorem qTV {R:Type}{nm:Nm}{f:FuncId}{as:List SV}{h:SH}{K:SV->SH->zED R}{F:zED R}{r:R}(ho:OkH P h)(e:(zA5 P f as h K F).run=some r) :
 qCX P G nm f (qC as) (qD h.l) (fun v p=>∃ v' h',v=v'.enc∧p=qD h'.l∧Post P h h' v'∧(K v' h').run=some r)∨F.run=some r:=by
 have go:∀ {x y:SV} {s:ByteArray} {c z:Int},asS x=some s->asI y=some (.u8,c)->qMR P f=true∧yE P (callFunc f #[.string s,.int .u8 c])=some (.value (.int .i64 z))->(K (.d (.int .i64) z) h).run=some r ->
  qCX P G nm f (qC [x,y]) (qD h.l) (fun v p=>∃ v' h',v=v'.enc∧p=qD h'.l∧Post P h h' v'∧(K v' h').run=some r):=fun {x y s c z} hs hc hx hk=>by
  refine .inl ⟨hx.1,[.string s,.int .u8 c],.int .i64 z,?_,rfl,hx.2,rfl,_,h,?_,rfl,⟨.refl _,ho,?_⟩,hk⟩
  ·simp only[qC,fT hs,yI hc];rfl
  ·simp[SV.enc,Ty.fv];rfl
  ·simp[SV.ok]
 have go3:∀ {x y z:SV} {a b c u v:Int},asI x=some (.u64,a)->asI y=some (.u64,b)->asI z=some (.u64,c)->qMR P f=true∧yE P (callFunc f #[.int .u64 a,.int .u64 b,.int .u64 c])=some (.value (.tuple #[.int .u64 u,.int .u64 v]))->(K (.tup [.d (.int .u64) u,.d (.int .u64) v]) h).run=some r ->
  qCX P G nm f (qC [x,y,z]) (qD h.l) (fun v p=>∃ v' h',v=v'.enc∧p=qD h'.l∧Post P h h' v'∧(K v' h').run=some r):=fun {x y z a b c u v} ha hb hc hx hk=>by
  refine .inl ⟨hx.1,[.int .u64 a,.int .u64 b,.int .u64 c],.tuple #[.int .u64 u,.int .u64 v],?_,rfl,hx.2,rfl,_,h,?_,rfl,⟨.refl _,ho,?_⟩,hk⟩
  ·simp only[qC,yI ha,yI hb,yI hc];rfl
  ·simp[SV.enc,qC,Ty.fv];rfl
  ·simp[SV.ok,okL]
 unfold zA5 at e;split at e
 ·rename_i x y hx;split at e
  ·rename_i s c hs hc;exact .inl (go hs hc (qUS hx) e)
  ·cases e
 ·rename_i x y hx;split at e
  ·rename_i s c hs hc;exact .inl (go hs hc (qT1 hx) e)
  ·cases e
 ·rename_i x y z hx;split at e
  ·rename_i a b c ha hb hc
   rcases run_ite e with ⟨q,e1⟩ | ⟨_,e1⟩
   ·exact .inl (go3 ha hb hc (q58 hx q) e1)
   ·cases e1
  ·cases e
 ·rename_i x y z hx;split at e
  ·rename_i a b c ha hb hc
   rcases run_ite e with ⟨q,e1⟩ | ⟨_,e1⟩
   ·exact .inl (go3 ha hb hc (q6W hx q) e1)
   ·cases e1
  ·cases e
 ·exact .inr e
theorem qPY {env:List SV}:∀ {rl:List Nat} {vs:List SV},qHJ rl env=some vs->(rl.map fun t=>(zL (qC env) t).getD PV.unk)=qC vs
 | [],vs,e=>by cases e;simp[qC]
 | i::is,vs,e=>by
   unfold qHJ at e;split at e
   ·rename_i v l hx hl;cases e;rw[zOC,qPY hl,zA,hx];simp[qC]
   ·cases e
theorem q0R (l:List SV):(qSX l).enc=qC2 (qC l):=by
 match l with
 | []=>simp[qSX,qC2,SV.enc,qC]
 | [v]=>simp[qSX,qC2,qC]
 | a::b::l=>simp[qSX,qC2,SV.enc,qC]
omit [Yl] in
theorem q6R {h:SH}{l:List SV}(hl:okL h l):(qSX l).ok h:=by
 match l,hl with
 | [],hl=>simp[qSX,SV.ok,okL]
 | [v],hl=>simp only[okL] at hl;exact hl.1
 | a::b::l,hl=>simp only[qSX,SV.ok];exact hl
theorem qDJ [Hnd][zE5 P G][zEZ P G](s:zE8 P good nat G tab)(ht:qP8 tab T)(hit:q27 P G IT)(ans:Ans):∀ n,qT9 P G (ciN P G T IT ans n)
 | 0=>by
   intro nm f as h K r ho ha e;unfold ciN at e;rcases qTV (nm:=nm) ho e with h1 | h1
   ·exact h1
   ·exact zE5.ok (P:=P) (G:=G) nm f as h K r ho ha h1
 | n+1=>by
   intro nm f as h K r ho ha e;unfold ciN at e;split at e
   case h_2 =>
    rcases qTV (nm:=nm) ho e with h1 | h1
    ·exact h1
    ·exact zE5.ok (P:=P) (G:=G) nm f as h K r ho ha h1
   rename_i fn an rs hfn hans;split at e
   case h_2=>cases e
   rename_i c rl hbody hrl;obtain⟨hc,e⟩:=qG e;rw[zNT] at hc;have hal:as.length<=fn.ntmps:=zN3 hc.2
   have hlen:(as++List.replicate (fn.ntmps - as.length) SV.unk).length=fn.ntmps:=by
    rw[zOG,zQC];omega
   refine qYS hc.1 hfn hbody rfl ?_
   have zEL:qC as++List.replicate (fn.ntmps - (qC as).length) PV.unk=qC (as++List.replicate (fn.ntmps - as.length) .unk):=by
    rw[dK,pW,qV]
   rw[zEL];refine (qX.runs (qZ7 (Γ:=none) (wd:=zAV) s ht hit (qDJ s ht hit ans n) zBW (fun nm=>qON ho) c ho (gV ha (qDP _ _)) hlen (.refl _) e)).mono ?_;rintro ex pe ph ⟨env',h',rfl,rfl,k1,k2,k3,k0,k4,k5⟩
   have key:∀ {vs ws:List SV},qHJ rl env'=some vs->q7W P fn.resultTypes.toList vs=some ws->(K (qSX ws) h').run=some r->∃ v,wC P fn (qC env') (qD h'.l)=some v∧∃ v' h2,v=v'.enc∧qD h'.l=qD h2.l∧Post P h h2 v'∧(K v' h2).run=some r:=fun {vs ws} hvs hws hk=>by
    obtain⟨a1,a2⟩:=qV6 hws;refine⟨(qSX ws).enc,?_,qSX ws,h',rfl,rfl,⟨k0,k2,q6R (a2 _ (zM.2 fun z hz=>zM.1 k1 z (qG4 hvs z hz)))⟩,hk⟩;unfold wC;rw[qKF hrl,qPY hvs,q0R,<-a1];rfl
   cases ex with
   | normal =>
     simp only[zCX] at k5;split at k5
     ·split at k5
      ·exact⟨.inl rfl,key ‹_› ‹_› k5⟩
      ·cases k5
     ·cases k5
   | ret =>
     simp only[zCX] at k5;split at k5
     ·split at k5
      ·exact⟨.inr rfl,key ‹_› ‹_› k5⟩
      ·cases k5
     ·cases k5
   | exit _=>cases k5
   | goto _=>cases k5
def zD1 {γ:Type}:vS (some γ) γ:=fun e g _ _=>match e with
 | .normal=>some g
 | .ret=>some g
 | _=>none
def fnI (P:Program)(G:Nat->Bool)(T:z8)(IT:List (FuncId×zEY))(CI:CIT)(an:An)(as ys:List Ty)(yt:List TypeId)(fn:Func)(x:TyL as)(γ:Type)(stp:γ->TyL ys->Option (γ×Bool))(g0:γ):Option γ:=match fn.body with
 | some c=>(ev (Γ:=some γ) (rs:=[]) P G T IT CI ⟨ys,yt,stp⟩ an (rdR P ⟨0,[]⟩ [] [] []) (enR fn.ntmps [] []) ⟨0,[]⟩ c false nm0 g0 (.yv::(qLJ as x++List.replicate (fn.ntmps - (as.length+1)) .unk)) ⟨0,[]⟩ zD1).run
 | none=>none
end
noncomputable section
variable [Gc]
variable [Frs]
variable {P:Program}{G:Nat->Bool}{nm:Nm}{tab:uN}{nat:xK}{good:FuncId->Bool}{T:z8}{IT:List (FuncId×zEY)}
theorem q45 [zEZ P G](s:zE8 P good nat G tab)(ht:∀ [Yl],qP8 tab T)(hit:∀ [Yl],q27 P G IT){CI:[Yl]->CIT}(hci:∀ [Yl],qT9 P G CI){an:An}{as ys:List Ty}{yt:List TypeId}{f:FuncId}{fn:Func}{F:TyL as->(γ:Type)->(γ->TyL ys->Option (γ×Bool))->γ->Option γ}
 (hent:entered P f=true) (hfn:P.funcs[f]?=some fn) (hc:(Nat.ble (as.length+1) fn.ntmps&&fn.results.toList.isEmpty)=true) (hF:∀ (y:Yl) x γ stp g0,@fnI _ _ y P G T IT CI an as ys yt fn x γ stp g0=F x γ stp g0) [Yl]:q2P P G f ⟨as,ys,yt,F⟩:=by
 refine⟨hent,fun x γ stp g0 g1 hx w l hst Z H D us hz hb hgl hW hv=>?_⟩
 letI:Yl:=⟨l⟩
 have hx:F x γ stp g0=some g1:=hx;rw[<-hF ⟨l⟩] at hx;unfold fnI at hx;split at hx
 case h_2=>cases hx
 rename_i c hbody;rw[zNT] at hc;have hal:=zN3 hc.1;have hres:fn.results=#[]:=by simpa using hc.2
 have hlen:(SV.yv::(qLJ as x++List.replicate (fn.ntmps - (as.length+1)) SV.unk)).length=fn.ntmps:=by
  rw[zOI,zOG,qF8,zQC];omega
 have hok:okL ⟨0,[]⟩ (SV.yv::(qLJ as x++List.replicate (fn.ntmps - (as.length+1)) SV.unk)):=by
  simp only[okL];exact⟨by simp[SV.ok],gV (qWC as x) (qDP _ _)⟩
 have hy:YOk P G (Γ:=GV (some γ)) w ⟨ys,yt,stp⟩:=fun g y g' b h=>hst g y g' b h
 have hrun:=qZ7 (Γ:=some γ) (wd:=w) s ht hit hci hy (fun nm=>qON rR) c rR hok hlen (.refl _) hx;refine uU.of hfn hbody rfl ?_;have e0:own (fun _=>0) []=fun _=>none:=rfl
 have hp0:Hp P Z H (own (fun _=>0) []):=⟨hz,fun k b ob hk=>(by cases hk),fun k k' b b' ob ob' hk=>(by cases hk),hgl⟩
 have zEL:VRL P Z H (own (fun _=>0) []) (qC (SV.yv::(qLJ as x++List.replicate (fn.ntmps - (as.length+1)) SV.unk))) ((.func (.yield l) #[] #[]::us)++List.replicate (fn.ntmps - (Value.func (.yield l) #[] #[]::us).length) undef):=by
  simp only[qC,dK,qF7,pW,zPX];refine .cons .yl ?_;have hul:us.length=as.length:=by rw[<-hv.len,<-qF7,qV,qF8]
  rw[zOI,hul];refine VRL.append hv ⟨by simp,fun i z v h1 h2=>?_⟩;rw[zQI] at h1;split at h1
  ·cases h1;exact .unk
  ·cases h1
 refine (hrun Z H (fun _=>0) _ D ⟨hp0,zEL,hW,fun b _=>qC5 b⟩ hb).mono ?_;rintro o ⟨Z',m',pe,ph,g',D',st,sd,kr,env',h',rfl,rfl,k1,k2,k3,k0,k4,k5⟩
 obtain⟨he,hg⟩:(o.e=.normal∨o.e=.ret)∧g'=g1:=by
  cases hoe:o.e with
  | normal=>rw[hoe] at k5;exact⟨.inl rfl,zOP k5⟩
  | ret=>rw[hoe] at k5;exact⟨.inr rfl,zOP k5⟩
  | exit _=>rw[hoe] at k5;cases k5
  | goto _=>rw[hoe] at k5;cases k5
 subst hg;refine⟨he,.tuple #[],by unfold j3;rw[hres];rfl,Z',D',st.hp.zlt,st.wd,⟨sd.size,sd.base,sd.zle,fun b h1 h2 h3=>sd.keep b h1 h2 h3,fun b h1 h2=>sd.zFE b h1 h2,fun b h1 _=>absurd h1 (qC5 b),sd.zFX⟩⟩
def Lib (P:Program)(good:FuncId->Bool)(G:Nat->Bool)(T:z8)(IT:List (FuncId×zEY)):Prop:=∃ nat tab,zE8 P good nat G tab∧(∀ [Yl],qP8 tab T)∧∀ [Yl],q27 P G IT
theorem Lib.zFT (L:Lib P good G T IT)(g:FuncId)(as rs:List Ty)(F:TyL as->Option (TyL rs))(hent:enters P g=true)
 (h:∀ {nat:xK},Setup P good nat G->∀ (x:TyL as) (y:TyL rs) (args:List Value) (H:IH),F x=some y->(∃ Z:Nat->Prop,VRL P Z H (fun _=>none) ((enL as).p x) args∧∀ b,Z b->b < H.size)->H.base<=H.size->GlH H->uU P G g args H fun q=>q12 P (enL as) F (jF rs) x args H q.1 q.2):Lib P good G ((g,⟨as,rs,F⟩)::T) IT:=by
 obtain⟨nat,tab,s,ht,hit⟩:=L
 letI:Yl:=⟨0⟩
 refine⟨_,_,s.zFT (enL as) F (jF rs) hent (qMO rs) (h s.s),?_,hit⟩;intro _ g' ent hg x;have hg:cond (Nat.beq g' g) (some (⟨as,rs,F⟩:Ent)) (slT g' T)=some ent:=hg;unfold q3T
 cases hb:Nat.beq g' g with
 | true =>
   rw[hb] at hg;cases hg;exact qP7 (a:=enL as) x
 | false =>
   rw[hb] at hg;exact ht g' ent hg x
theorem Lib.add [Hnd][zE5 P G][zEZ P G](L:Lib P good G T IT)(g:FuncId)(ans:Ans)(n:Nat)(an:An)(as rs:List Ty)(fn:Func)(F:TyL as->Option (TyL rs))(hent:enters P g=true)(hfn:P.funcs[g]?=some fn)(hc:qRF as rs fn=true)
 (hF:∀ (y:Yl) x,@fnS _ _ y P G T IT (ciN P G T IT ans n) an as rs fn x=F x):Lib P good G ((g,⟨as,rs,F⟩)::T) IT:=by
 obtain⟨nat,tab,s,ht,hit⟩:=L
 letI:Yl:=⟨0⟩
 have hF2:fnS P G T IT (ciN P G T IT ans n) an as rs fn=F:=funext fun x=>hF ⟨0⟩ x
 have zH5:=q85 (an:=an) (as:=as) (rs:=rs) s ht hit (qDJ s ht hit ans n) hfn hc;rw[hF2] at zH5;refine⟨_,_,s.add (enL as) F (jF rs) hent (qMO rs) zH5,?_,hit⟩;intro _ g' ent hg x;have hg:cond (Nat.beq g' g) (some (⟨as,rs,F⟩:Ent)) (slT g' T)=some ent:=hg;unfold q3T
 cases hb:Nat.beq g' g with
 | true =>
   rw[hb] at hg;cases hg;exact qP7 (a:=enL as) x
 | false =>
   rw[hb] at hg;exact ht g' ent hg x
theorem Lib.zMF [Hnd][zE5 P G][zEZ P G](L:Lib P good G T IT)(f:FuncId)(ans:Ans)(n:Nat)(an:An)(as ys:List Ty)(yt:List TypeId)(fn:Func)(F:TyL as->(γ:Type)->(γ->TyL ys->Option (γ×Bool))->γ->Option γ)(hent:entered P f=true)(hfn:P.funcs[f]?=some fn)(hc:(Nat.ble (as.length+1) fn.ntmps&&fn.results.toList.isEmpty)=true)
 (hF:∀ (y:Yl) x γ stp g0,@fnI _ _ y P G T IT (ciN P G T IT ans n) an as ys yt fn x γ stp g0=F x γ stp g0):Lib P good G T ((f,⟨as,ys,yt,F⟩)::IT):=by
 obtain⟨nat,tab,s,ht,hit⟩:=L;refine⟨nat,tab,s,ht,?_⟩;intro _ f' ent hg;have hg:cond (Nat.beq f' f) (some (⟨as,ys,yt,F⟩:zEY)) (slI f' IT)=some ent:=hg
 cases hb:Nat.beq f' f with
 | true =>
   rw[hb] at hg;cases hg;rw[zNU hb];exact q45 s ht hit (CI:=ciN P G T IT ans n) (qDJ s ht hit ans n) hent hfn hc hF
 | false =>
   rw[hb] at hg;exact hit f' ent hg
theorem Lib.zIW [Hnd][zE5 P G][zEZ P G](L:Lib P good G T IT)(g:FuncId)(ans:Ans)(an:An)(as rs:List Ty)(fn:Func)(F:TyL as->Option (TyL rs))(hent:enters P g=true)(hfn:P.funcs[g]?=some fn)(hc:qRF as rs fn=true)
 (hF:(fun (y:Yl) (x:TyL as)=>@fnS _ _ y P G T IT (ciN P G T IT ans 3) an as rs fn x)=fun (_:Yl) x=>F x):Lib P good G ((g,⟨as,rs,F⟩)::T) IT:=L.add g ans 3 an as rs fn F hent hfn hc fun y x=>congrFun (congrFun hF y) x
theorem Lib.zJD [Hnd][zE5 P G][zEZ P G](L:Lib P good G T IT)(f:FuncId)(ans:Ans)(an:An)(as ys:List Ty)(yt:List TypeId)(fn:Func)(F:TyL as->(γ:Type)->(γ->TyL ys->Option (γ×Bool))->γ->Option γ)(hent:entered P f=true)(hfn:P.funcs[f]?=some fn)(hc:(Nat.ble (as.length+1) fn.ntmps&&fn.results.toList.isEmpty)=true)
 (hF:(fun (y:Yl) (x:TyL as) (γ:Type) (stp:γ->TyL ys->Option (γ×Bool)) (g0:γ)=>@fnI _ _ y P G T IT (ciN P G T IT ans 3) an as ys yt fn x γ stp g0)=fun (_:Yl) x γ stp g0=>F x γ stp g0):Lib P good G T ((f,⟨as,ys,yt,F⟩)::IT) :=
 L.zMF f ans 3 an as ys yt fn F hent hfn hc fun y x γ stp g0=>congrFun (congrFun (congrFun (congrFun (congrFun hF y) x) γ) stp) g0
end
end Go.Sv
namespace Go.Sv
open Go.Idl
variable [Gc]{P:Program}{G:Nat->Bool}{tab:uN}{nat:xK}{good:FuncId->Bool}
theorem qW9 {k:IntKind}:∀ {cs:List FV},cs.all (isK k)=true->∃ xs:List Int,cs=List.flatMap (Ty.int k).cells xs∧xs.length=cs.length
 | [],_=>⟨[],rfl,rfl⟩
 | c::cs,h=>by
   rw[zO7,zNT] at h;obtain⟨xs,h1,h2⟩:=qW9 h.2;have hc:=h.1;unfold isK at hc;split at hc
   ·rename_i k' x;have:k=k':=of_decide_eq_true hc;subst this;exact⟨x::xs,by rw[zOK,<-h1];rfl,by rw[zOI,zOI,h2]⟩
   ·cases hc
theorem q8R [Frs] (s:zE8 P good nat G tab) (h:∀ g el,Frs.fr g=some el->enters P g=true∧qMR P g=false∧szT P el=some 1∧tab g [.f (.l el 0 [])]=some (.f (.l el 0 [])) ∧
 ∀ (xs:List Int),xs≠[]->Nat.ble xs.length 1048576=true->qCX P G nm0 g [.f (.l el xs.length (List.flatMap (Ty.int Frs.fk).cells xs))] [] fun v p=>∃ k0,v=.own k0 xs.length 0 xs.length∧qB k0 p=some ⟨el,true,(List.flatMap (Ty.int Frs.fk).cells xs).map .f⟩):zEZ P G:=by
 refine⟨fun g el hg=>?_⟩;obtain⟨h1,hx,hsz,h2,h3⟩:=h g el hg;refine⟨h1,fun n cs hfo Z H zER hp hb hv=>?_⟩;unfold qK5 at hfo;rw[hsz] at hfo;simp only[zNT] at hfo;obtain⟨f1,f2,_,f3⟩:=hfo;obtain⟨xs,rfl,hlen⟩:=qW9 f3
 have hn:n=xs.length:=by
  have:=zNU f1;omega
 subst hn;by_cases hxs:xs=[]
 ·subst hxs;obtain⟨_,_,k,hk,hc⟩:=s.t g _ _ h2;intro args' f w hR hG ha;refine s.s.spec g k hk zER args' H f w _ hR hG ha (hc Z H zER hv hp.zlt hb hp.gl _ fun v H' Z' k1 k2 k3 k4 k5=>?_);have hp2:Hp P Z' H' (own (fun _=>0) []):=hp.old k1 k2 k3 k4;exact⟨Z',fun _=>0,.f (.l el 0 []),[],hp2,k5,.old k1 k2 k4,.inl ⟨rfl,rfl⟩⟩
 ·rcases h3 xs hxs f2 with ⟨e,_⟩ | ⟨_,hc⟩
  ·rw[hx] at e;cases e
  ·refine (hc Z H (fun _=>0) zER hp hb hv).mono ?_;rintro r ⟨Z',m',pv,ph',a,b,c,d,k0,rfl,e⟩;refine⟨Z',m',_,ph',a,b,c,.inr ⟨fun h=>hxs (zQH h),k0,rfl,e⟩⟩
end Go.Sv
namespace Go.Sv
open Go.Idl
noncomputable section
variable [Gc]
variable [Frs]
variable [Yl]
variable {P:Program}{G:Nat->Bool}{nm:Nm}{tab:uN}{nat:xK}{good:FuncId->Bool}{T:z8}{IT:List (FuncId×zEY)}{R:Type}{r:R}
def q0U:SV->SV->Bool
 | .ref k o w,.ref k' o' w'=>Nat.beq k k'&&(Nat.beq o o'&&Nat.beq w w')
 | _,_=>false
def qQA:List SV->List SV->Bool
 | [],[]=>true
 | x::l,y::m=>q0U x y&&qQA l m
 | _,_=>false
def qX6:SV->SV->Bool
 | .fn f [] b,.fn g [] d=>Nat.beq f g&&qQA b d
 | x,y=>q0U x y
omit [Yl] in
theorem qQ1 {x y:SV}(e:q0U x y=true):x=y:=by
 unfold q0U at e;split at e
 ·simp only[zNT] at e;rw[zNU e.1,zNU e.2.1,zNU e.2.2]
 ·cases e
omit [Yl] in
theorem qJN:∀ {x y:List SV},qQA x y=true->x=y
 | [],[],_=>rfl
 | a::x,b::y,e=>by
   simp only[qQA,zNT] at e;rw[qQ1 e.1,qJN e.2]
 | [],_::_,e=>by cases e
 | _::_,[],e=>by cases e
omit [Yl] in
theorem qTX {x y:SV}(e:qX6 x y=true):x=y:=by
 unfold qX6 at e;split at e
 ·rw[zNT] at e;rw[zNU e.1,qJN e.2]
 ·exact qQ1 e
def q6S (d:List Nat):Nat->List SV->List SV->Bool
 | _,[],[]=>true
 | i,x::l,y::m=>(mY i d||qX6 x y)&&q6S d (i+1) l m
 | _,_,_=>false
omit [Yl] in
theorem qNR {d:List Nat}:∀ {i:Nat} {l m:List SV},q6S d i l m=true->l.length=m.length∧∀ j,(j+i) ∉ d->zL l j=zL m j
 | _,[],[],_=>⟨rfl,fun _ _=>rfl⟩
 | i,x::l,y::m,e=>by
   simp only[q6S,zNT,zOU] at e;obtain⟨a1,a2⟩:=qNR e.2;refine⟨by simp[a1],fun j hj=>?_⟩
   cases j with
   | zero =>
     rcases e.1 with q | q
     ·exact absurd (xM.1 q) (by simpa using hj)
     ·rw[qTX q];rfl
   | succ j=>exact a2 j (by rw[zPQ,zQM 1 i] at hj;exact hj)
 | _,[],_::_,e=>by cases e
 | _,_::_,[],e=>by cases e
def qIA (ls:List Nat):List (Nat×SO)->List (Nat×SO)
 | []=>[]
 | p::l=>cond (mY p.1 ls) (p::qIA ls l) (qIA ls l)
omit [Yl] in
theorem qAO {ls:List Nat}{k:Nat}(hk:k∈ls):∀ {l:List (Nat×SO)},slk k (qIA ls l)=slk k l
 | []=>rfl
 | (j,p)::l=>by
   unfold qIA;by_cases hjk:k=j
   ·subst hjk;simp only[xM.2 hk,cond_true];simp[slk]
   ·have hb:(k==j)=false:=by simpa using hjk
    cases hm:mY j ls with
    | true=>simp[slk,hb,qAO hk (l:=l)]
    | false=>simp[slk,hb,qAO hk (l:=l)]
omit [Yl] in
theorem qN2:∀ {is:List Nat} {m r1 r2:List SV},(dI is m r1).2=(dI is m r2).2
 | [],m,r1,r2=>rfl
 | i::is,c::m,r1,r2=>qN2 (is:=is) (m:=m)
 | _::_,[],_,_=>rfl
omit [Yl] in
theorem aT {ls:List Nat}{k:Nat}{o:SO}:∀ {l:List (Nat×SO)},slk k (qIA ls l)=some o->k∈ls∧slk k l=some o
 | [],h=>by cases h
 | (j,p)::l,h=>by
   unfold qIA at h;by_cases hjk:k=j
   ·subst hjk
    cases hm:mY k ls with
    | true =>
      simp only[hm,cond_true] at h;refine⟨xM.1 hm,?_⟩;simpa [slk] using h
    | false =>
      simp only[hm,cond_false] at h;have:=(aT h).1;rw[xM.2 this] at hm;cases hm
   ·have hb:(k==j)=false:=by simpa using hjk
    have h2:slk k (qIA ls l)=some o:=by
     cases hm:mY j ls with
     | true=>simpa [hm,slk,hb] using h
     | false=>simpa [hm] using h
    obtain⟨a,b⟩:=aT h2;exact⟨a,by simpa [slk,hb] using b⟩
def SH.only (h:SH)(ls:List Nat):SH:=⟨h.next,qIA ls h.l⟩
omit [Yl] in
theorem qZG {h:SH}{ls:List Nat}(a:OkH P h):Keep h (h.only ls)∧OkH P (h.only ls):=by
 have hl:∀ j ob,slk j (h.only ls).l=some ob->slk j h.l=some ob:=fun j ob hj=>(aT hj).2
 have hkp:Keep h (h.only ls):=⟨zNV _,fun j ob hj _=>hl j ob hj,fun j el gr g w t xs hj _=>⟨w,xs,hl _ _ hj,rfl⟩⟩
 exact⟨hkp,⟨fun j ob hj=>a.ver j ob (hl j ob hj),fun j el w l hj=>qI hkp (a.cells j el w l (hl _ _ hj)),fun j el gr g w t xs hj=>a.list j el gr g w t xs (hl _ _ hj)⟩⟩
structure RT where
 g:FuncId
 nm:Nm
 as:List SV
 bx:List (Nat×TypeId)
 cx:List (Nat×TypeId×List SV)
 d:List Nat
 os:List (Nat×Bool)
 b:List (Nat×List (Option Nat))
 ts:List Ty
 fz:List (Nat×TypeId)
def RT.sh (q:RT):Sh:=⟨q.d,q.os.map (·.1),[],[],[],q.b,[]⟩
def qYO:List (Nat×TypeId)->List (Nat×SO)
 | []=>[]
 | p::l=>(p.1,.cells p.2 0 [])::qYO l
def q7Z (bs:List (Nat×SO)):List (Nat×TypeId×List SV)->List (Nat×SO)
 | []=>bs
 | p::l=>(p.1,.cells p.2.1 0 p.2.2)::q7Z bs l
def RT.hT (q:RT):SH:=⟨1,q7Z (qYO q.bx) q.cx⟩
def zBA:SV->Bool
 | .ref _ _ _=>true
 | .fn _ [] b=>b.all fun x=>match x with
   | .ref _ _ _=>true
   | _=>false
 | _=>false
omit [Yl] in
theorem qUD {h:SH}{x:SV}(e:zBA x=true):x.ok h:=by
 unfold zBA at e;split at e
 ·simp[SV.ok]
 ·rename_i f b;simp only[SV.ok,okL,true_and];refine zM.2 fun y hy=>?_
  have:=zNW.1 e y hy;split at this
  ·simp[SV.ok]
  ·cases this
 ·cases e
def RT.chk (q:RT):Bool:=(q.as.all fun x=>zBA x||(match x with
 | .unk=>true
 | _=>false))&&q.cx.all fun p=>p.2.2.all zBA
omit [Yl] in
theorem qKS {k:Nat}{o:SO}:∀ {l:List (Nat×TypeId)},slk k (qYO l)=some o->∃ el,o=.cells el 0 []
 | [],h=>by cases h
 | p::l,h=>by
   have h:cond (k==p.1) (some (SO.cells p.2 0 [])) (slk k (qYO l))=some o:=h
   cases hk:k==p.1 with
   | true=>rw[hk] at h;cases h;exact⟨_,rfl⟩
   | false=>rw[hk] at h;exact qKS h
omit [Yl] in
theorem nH {k:Nat}{o:SO}{bs:List (Nat×TypeId)}:∀ {l:List (Nat×TypeId×List SV)},slk k (q7Z (qYO bs) l)=some o->(∃ el,o=.cells el 0 [])∨∃ p∈l,o=.cells p.2.1 0 p.2.2
 | [],h=>.inl (qKS h)
 | p::l,h=>by
   have h:cond (k==p.1) (some (SO.cells p.2.1 0 p.2.2)) (slk k (q7Z (qYO bs) l))=some o:=h
   cases hk:k==p.1 with
   | true=>rw[hk] at h;cases h;exact .inr ⟨p,zN1,rfl⟩
   | false =>
     rw[hk] at h
     rcases nH h with q | ⟨p',q,e⟩
     ·exact .inl q
     ·exact .inr ⟨p',zNZ _ q,e⟩
omit [Yl] in
theorem RT.ok {q:RT}(h:q.chk=true):OkH P q.hT∧okL q.hT q.as:=by
 unfold RT.chk at h;rw[zNT] at h;refine⟨⟨fun k ob hk=>?_,fun k el w l hk=>?_,fun k el gr g w t xs hk=>?_⟩,zM.2 fun x hx=>?_⟩
 ·rcases nH hk with ⟨el,rfl⟩ | ⟨p,_,rfl⟩ <;> exact Nat.zero_lt_one
 ·rcases nH hk with ⟨el,e⟩ | ⟨p,hp,e⟩
  ·cases e;simp[okL]
  ·cases e;exact zM.2 fun x hx=>qUD (zNW.1 (zNW.1 h.2 p hp) x hx)
 ·rcases nH hk with ⟨el,e⟩ | ⟨p,_,e⟩ <;> cases e
 ·have:=zNW.1 h.1 x hx;rw[zOU] at this;rcases this with e | e
  ·exact qUD e
  ·split at e
   ·simp[SV.ok]
   ·cases e
def q72 (cx:List (Nat×TypeId×List SV))(h:SH):Bool:=cx.all fun p=>match slk p.1 h.l with
 | some (.cells el _ l)=>Nat.beq el p.2.1&&(Nat.beq l.length p.2.2.length&&q6S [] 0 l p.2.2)
 | _=>false
omit [Yl] in
theorem q55 {l m:List SV}(e:q6S [] 0 l m=true):l=m:=by
 obtain⟨a,b⟩:=qNR e;apply zPB;intro i;have:=b i (by simp)
 rwa [qF,qF] at this
def RT.rd (q:RT)(h1:SH)(env:List SV)(h:SH):Option (TyL q.ts):=match qHJ q.d env,qSU q.sh.o h,qYQ q.b h with
 | some a,some b,some c=>(match sW q.ts (a++(b++c)) with
   | some s=>cond (qSW q.os h&&(mP (q.b.map (·.1)) q.b h1 h&&q72 q.cx h)) (some s) none
   | none=>none)
 | _,_,_=>none
def RT.bs (q:RT):List Nat:=q.b.map (·.1)++q.cx.map (·.1)
def RT.put (P:Program)(q:RT)(env:List SV)(h:SH)(s:TyL q.ts):Option (List SV×SH):=mkS P q.d q.sh q.ts q.os env h s
def RT.call (q:RT)(nm:Nm)(as:List SV)(h:SH):Option (TyL q.ts):=cond (q6S q.d 0 as q.as&&((q.os.all fun p=>nm.p p.1||!q.nm.p p.1)&&(q.bs.all fun k=>!q.nm.p k))) (q.rd q.hT as h) none
def recC (P:Program)(q:RT)(F:TyL q.ts->Option (TyL q.ts))(CI:CIT):CIT:=fun R nm f as h K=>cond (Nat.beq f q.g)
 (match q.call nm as h with
   | some s=>.bind (F s) fun s'=>goS (q.put P as (h.only q.bs) s') fun _ hh=>K (.tup []) hh
   | none=>.fail)
 (CI R nm f as h K)
def zEA (P:Program)(q:RT):vS none (TyL q.ts):=fun e _ env h=>match e with
 | .normal=>fzv P q.nm q.fz env h fun env h=>q.rd q.hT env h
 | .ret=>fzv P q.nm q.fz env h fun env h=>q.rd q.hT env h
 | _=>none
def zCD (P:Program)(G:Nat->Bool)(T:z8)(IT:List (FuncId×zEY))(q:RT)(CI:CIT)(an:An)(fn:Func)(s:TyL q.ts):Option (TyL q.ts):=match fn.body,q.put P q.as q.hT s with
 | some c,some p=>(ev (Γ:=none) P G T IT CI yi0 an (rdR P ⟨0,[]⟩ fn.resultTypes.toList [] []) (enR fn.ntmps [] []) ⟨0,[]⟩ c false q.nm () (p.1++List.replicate (fn.ntmps - p.1.length) .unk) p.2 (zEA P q)).run
 | _,_=>none
def qVH (P:Program)(q:RT)(fn:Func):Bool:=enters P q.g&&(q.chk&&(Nat.ble q.as.length fn.ntmps&&fn.results.toList.isEmpty))
theorem RT.zH6 {q:RT}{h1:SH}{env:List SV}{h:SH}{s:TyL q.ts}(e:q.rd h1 env h=some s) :
 ∃ a b c,qHJ q.d env=some a∧qSU q.sh.o h=some b∧qYQ q.b h=some c∧sW q.ts (a++(b++c))=some s∧qSW q.os h=true∧mP (q.b.map (·.1)) q.b h1 h=true∧q72 q.cx h=true:=by
 unfold RT.rd at e;split at e
 case h_2=>cases e
 rename_i a b c ha hb hc;split at e
 case h_2=>cases e
 rename_i s' hs
 cases hx:(qSW q.os h&&(mP (q.b.map (·.1)) q.b h1 h&&q72 q.cx h)) with
 | false=>rw[hx] at e;cases e
 | true =>
   rw[hx] at e;cases e;simp only[zNT] at hx;exact⟨a,b,c,ha,hb,hc,hs,hx.1,hx.2.1,hx.2.2⟩
omit [Yl] in
theorem qM3 {cx:List (Nat×TypeId×List SV)}{h:SH}(e:q72 cx h=true){p:Nat×TypeId×List SV}(hp:p∈cx):∃ w,slk p.1 h.l=some (.cells p.2.1 w p.2.2):=by
 unfold q72 at e;have:=zNW.1 e p hp;split at this
 ·rename_i el w l hl;simp only[zNT] at this;rw[hl,zNU this.1,q55 this.2.2];exact⟨w,rfl⟩
 ·cases this
theorem q06 {q:RT}{h:SH}(e:q72 q.cx h=true){k:Nat}{o:SO}(hk:k ∉ q.b.map (·.1))(hq:∀ p∈q.bx,p.1∈q.b.map (·.1))(hl:slk k q.hT.l=some o):qB k (qD h.l)=some o.enc:=by
 have go:∀ {l:List (Nat×TypeId×List SV)},(∀ p∈l,p∈q.cx)->slk k (q7Z (qYO q.bx) l)=some o->qB k (qD h.l)=some o.enc:=fun {l}=>by
  induction l with
  | nil =>
    intro _ hl
    have gb:∀ {m:List (Nat×TypeId)},(∀ p∈m,p∈q.bx)->slk k (qYO m)=some o->False:=fun {m}=>by
     induction m with
     | nil=>intro _ h;cases h
     | cons p m ih =>
       intro hm h;have h:cond (k==p.1) (some (SO.cells p.2 0 [])) (slk k (qYO m))=some o:=h
       cases hb:k==p.1 with
       | true =>
         have:k=p.1:=by simpa using hb
         exact hk (by rw[this];exact hq p (hm p zN1))
       | false=>rw[hb] at h;exact ih (fun x hx=>hm x (zNZ _ hx)) h
    exact (gb (fun _ h=>h) hl).elim
  | cons p l ih =>
    intro hm h2;have h2:cond (k==p.1) (some (SO.cells p.2.1 0 p.2.2)) (slk k (q7Z (qYO q.bx) l))=some o:=h2
    cases hb:k==p.1 with
    | true =>
      rw[hb] at h2;cases h2;have:k=p.1:=by simpa using hb
      subst this;obtain⟨w,hw⟩:=qM3 e (hm p zN1);rw[zP hw];rfl
    | false=>rw[hb] at h2;exact ih (fun x hx=>hm x (zNZ _ hx)) h2
 exact go (fun _ h=>h) hl
def RT.zK2 (q:RT):Bool:=q.bx.all fun p=>mY p.1 (q.b.map (·.1))
theorem qXO [zEZ P G](s:zE8 P good nat G tab)(ht:qP8 tab T)(hit:q27 P G IT){q:RT}{CI' CI:CIT}(hci:qT9 P G CI)(zMG:qT9 P G CI'){an:An}{fn:Func}(hfn:P.funcs[q.g]?=some fn)(hc:qVH P q fn=true)(hbx:q.zK2=true){F:TyL q.ts->Option (TyL q.ts)}
 (hF:∀ x y,F x=some y->zCD P G T IT q CI' an fn x=some y):qT9 P G (recC P q F CI):=by
 intro R nm f as h K r ho ha e;unfold recC at e
 cases hf:Nat.beq f q.g with
 | false=>rw[hf] at e;exact hci nm f as h K r ho ha e
 | true =>
 rw[hf] at e;have:=zNU hf;subst this;simp only[cond_true] at e;split at e
 case h_2=>cases e
 rename_i x hcall;obtain⟨y,hy,e⟩:=run_bind e;obtain⟨e2,hh,zK3,hK⟩:=nA e;unfold RT.call at hcall
 cases hck:(q6S q.d 0 as q.as&&((q.os.all fun p=>nm.p p.1||!q.nm.p p.1)&&(q.bs.all fun k=>!q.nm.p k))) with
 | false=>rw[hck] at hcall;cases hcall
 | true =>
 rw[hck] at hcall;simp only[zNT] at hck;obtain⟨has,hos,hbs⟩:=hck;obtain⟨a,b,c,r1,r2,r3,r4,r5,r6,r7⟩:=RT.zH6 hcall;have hrun:=hF x y hy;unfold zCD at hrun;split at hrun
 case h_2=>cases hrun
 rename_i code p hbody hmk;obtain⟨ec,hcn⟩:=p;unfold qVH at hc;simp only[zNT] at hc;obtain⟨hent,hqc,hlen,hres⟩:=hc;obtain⟨hoT,haT⟩:=RT.ok (P:=P) hqc;have hq:∀ p∈q.bx,p.1∈q.b.map (·.1):=fun p hp=>xM.1 (zNW.1 hbx p hp)
 obtain⟨l1,l2⟩:=qNR has;have hbl:WkP (qC as) (qC (blank q.d 0 q.as)):=qAD l1 fun i hi=>by rw[zA,zA,l2 i hi]
 obtain⟨wp,sp⟩:=q1L (sh:=q.sh) ho hoT ha r1 r2 r3 r4 hmk rfl r5 rfl r6 (fun k o _ hk hl=>q06 r7 hk hq hl) hbl;obtain⟨_,m2,m3,m4,_,_⟩:=uV hoT haT hmk;have hal:ec.length<=fn.ntmps:=by rw[m4];exact zN3 hlen
 have hl:(ec++List.replicate (fn.ntmps - ec.length) SV.unk).length=fn.ntmps:=by
  rw[zOG,zQC];omega
 have hrr:fn.results.toList=[]:=by
  cases hx:fn.results.toList with
  | nil=>rfl
  | cons _ _=>rw[hx] at hres;cases hres
 have hev:=qX.runs (qZ7 (Γ:=none) (wd:=zAV) (an:=an) (rdv:=rdR P ⟨0,[]⟩ fn.resultTypes.toList [] []) (en:=enR fn.ntmps [] []) (hb:=⟨0,[]⟩) (N:=fn.ntmps) s ht hit zMG zBW (fun nm=>qON (rs:=[]) (rv:=[]) rR) code m2 (gV m3 (qDP _ _)) hl ⟨zPO _,fun k ob _ h=>absurd h (zP0 _),fun k el gr g w t xs _ h=>absurd h (zP0 _)⟩ hrun);refine .inr ⟨hent,fun Z H m zER hp zMH hv=>?_⟩;refine uU.of hfn hbody rfl ?_;obtain⟨Z1,mm,w1,w2,w3,w4⟩:=Wk.drop (P:=P) (nm:=q.nm) wp sp Z H m zER hp hv;have hla:zER.length=ec.length:=by rw[<-w2.len,qV]
 have zEL:VRL P Z1 H (own mm (qD hcn.l)) (qC (ec++List.replicate (fn.ntmps - ec.length) .unk)) (zER++List.replicate (fn.ntmps - zER.length) undef):=by
  rw[dK,pW,hla];refine VRL.append w2 ⟨by simp,fun i z v h1 h2=>?_⟩;rw[zQI] at h1;split at h1
  ·cases h1;exact .unk
  ·cases h1
 refine (hev Z1 H mm _ w1 zMH zEL).mono ?_;rintro o ⟨Z2,m',zEX,ph2,a1,b1,c1,d1,env',h',rfl,rfl,k1,k2,k3,k0,k4,k5⟩
 have hpr:wC P fn (qC env') (qD h'.l)=some (.tup []):=by
  unfold wC;rw[hrr];cases hx:fn.resultTypes.toList <;> rfl
 obtain⟨u,v1,v2⟩:=mG a1 b1 hpr
 obtain⟨he,zMI⟩:(o.e=.normal∨o.e=.ret)∧(fzv P q.nm q.fz env' h' fun env h=>(q.rd q.hT env h:zED (TyL q.ts))).run=some y:=by
  cases ho:o.e with
  | normal=>rw[ho] at k5;exact⟨.inl rfl,k5⟩
  | ret=>rw[ho] at k5;exact⟨.inr rfl,k5⟩
  | exit _=>rw[ho] at k5;cases k5
  | goto _=>rw[ho] at k5;cases k5
 obtain⟨zEJ,h1,wz,zFU,hrd⟩:=qPV (nm:=q.nm) k2 k1 zMI;have hrd:q.rd q.hT zEJ h1=some y:=hrd;have ho1:=zFU.2.1;obtain⟨Z3,m3',x1,x2,x3,x4⟩:=wz Z2 o.H m' o.env a1 b1;obtain⟨a',b',c',s1,s2,s3,s4,s5,s6,s7⟩:=RT.zH6 hrd;obtain⟨ko,kok⟩:=qZG (ls:=q.bs) ho;have hde:=bB s4
 -- the state behind it,where the call stands
 have hsb:mP (q.b.map (·.1)) q.b (h.only q.bs) h1=true:=by
  unfold mP at s6 r6 ⊢;rw[zNW] at s6 r6 ⊢;intro p hp;have h1:=s6 p hp;have h2:=r6 p hp;have hk:slk p.1 (h.only q.bs).l=slk p.1 h.l:=qAO (zO5 _ (zRC hp));rw[zNT,zNT] at h1 h2 ⊢;refine⟨h1.1,h1.2.1,?_⟩;have g1:=h1.2.2;have g2:=h2.2.2;rw[hk];split at g1
  ·rename_i e1 _ _ e3 _ l3 q1 q2;rw[q1] at g2;split at g2
   ·rename_i e4 _ _ e5 _ l5 q3 q4;cases q3;rw[q4,q2];simp only;rw[zNT] at g1 g2 ⊢;rw[<-zNU g2.1];exact g1
   ·cases g2
  ·cases g1
 have hw2:qC (dI q.d (svL q.ts y) (blank q.d 0 as)).2=qC (b'++c'):=by
  rw[qN2 (r2:=zEJ)];exact (qNT (m:=svL q.ts y) s1 hde (WkP.refl _)).2
 obtain⟨n1,n2,n3,_,_,n6⟩:=uV kok (qI ko ha) zK3
 obtain⟨_,_,hsub⟩:=qOX (sh:=q.sh) ho1 kok s2 s3 hw2 zK3 rfl s5 hsb (fun k o hk1 hk2 hl=>by
  obtain⟨t1,t2⟩:=aT hl;rcases zOZ.1 t1 with q1 | q1
  ·exact absurd q1 hk2
  ·obtain⟨p,hp,rfl⟩:=zOJ.1 q1;obtain⟨w5,u1⟩:=qM3 r7 hp;obtain⟨w6,u2⟩:=qM3 s7 hp;rw[u1] at t2;cases t2
   rw[zP u2];rfl)
 have hfz:=Fz.drop x1 (qCU hsub);have v3:VR P Z3 o.H (own m3' (qD hh.l)) (.tup []) u:=qEG v2 rfl _ _ _;refine⟨he,u,v1,Z3,m3',.tup [],qD hh.l,hfz.hp,v3,w3.trans (c1.trans (x3.trans hfz.step)),?_,.tup [],hh,by simp[SV.enc,qC],rfl,⟨ko.trans n1,n2,by simp[SV.ok,okL]⟩,hK⟩;have hkr:=w4.trans (d1.trans (x4.trans (hfz.kr (inP q.nm))));intro k b0 ob0 hk;rcases hkr k b0 ob0 hk with h1 | h1 | h1
 ·exact .inl h1
 ·exact .inr (.inl h1)
 ·refine .inr (.inr ?_);obtain⟨hk1,_⟩:=vQ hk;rw[vH] at hk1;obtain⟨o2,hk2,_⟩:=zN4.1 hk1;have h1:q.nm.p k=true:=h1
  have hnb:k ∉ q.bs:=fun hm=>by
   have:=zNW.1 hbs k hm;rw[h1] at this;cases this
  by_cases hko:k∈q.os.map (·.1)
  ·obtain⟨p,hp,rfl⟩:=zOJ.1 hko;have:=zNW.1 hos p hp;rw[zOU,h1] at this;rcases this with q | q
   ·exact q
   ·cases q
  ·have hkb:k ∉ q.sh.b.map (·.1):=fun hm=>hnb (zO5 _ hm)
   rw[n6 k hko hkb] at hk2;exact absurd (aT hk2).1 hnb
def qCV {as:List Ty}(S:(TyL as->Option (TyL as))->TyL as->Option (TyL as)):Nat->TyL as->Option (TyL as)
 | 0,_=>none
 | n+1,x=>S (qCV S n) x
end
end Go.Sv
namespace Go.Sv
open Go.Idl
noncomputable section
variable [Gc]
variable [Frs]
variable {P:Program}{G:Nat->Bool}{good:FuncId->Bool}{T:z8}{IT:List (FuncId×zEY)}
abbrev qSV [h:Hnd](P:Program)(q:RT)(F:TyL q.ts->Option (TyL q.ts)):Hnd:=⟨recC P q F h.ci⟩
def zD0 [Hnd][Yl](P:Program)(G:Nat->Bool)(T:z8)(IT:List (FuncId×zEY))(q:RT)(ans:Ans)(an:An)(fn:Func)(F:TyL q.ts->Option (TyL q.ts))(s:TyL q.ts):Option (TyL q.ts) :=
 zCD P G T IT q (@ciN _ _ _ (qSV P q F) P G T IT ans 3) an fn s
theorem qOE [Hnd][zE5 P G][zEZ P G](L:Lib P good G T IT)(q:RT)(ans:Ans)(an:An)(fn:Func)(S:(TyL q.ts->Option (TyL q.ts))->TyL q.ts->Option (TyL q.ts))(hfn:P.funcs[q.g]?=some fn)(hc:(qVH P q fn&&q.zK2)=true)
 (hS:(fun (y:Yl) F x=>@zD0 _ _ _ y P G T IT q ans an fn F x)=fun (_:Yl) F x=>S F x):∀ n,@zE5 _ P G (qSV P q (qCV S n))
 | 0=>by
   refine @zE5.mk _ P G (qSV P q (qCV S 0)) fun {y}=>?_
   obtain⟨nat,tab,s,ht,hit⟩:=L;rw[zNT] at hc;exact qXO s ht hit (CI':=Hnd.ci) zE5.ok zE5.ok (an:=an) hfn hc.1 hc.2 fun x y h=>by cases h
 | n+1=>by
   have ih:=qOE L q ans an fn S hfn hc hS n;refine @zE5.mk _ P G (qSV P q (qCV S (n+1))) fun {y}=>?_
   obtain⟨nat,tab,s,ht,hit⟩:=L;rw[zNT] at hc;refine qXO s ht hit (CI':=@ciN _ _ _ (qSV P q (qCV S n)) P G T IT ans 3) zE5.ok (@qDJ _ _ _ _ _ _ _ _ _ _ (qSV P q (qCV S n)) ih _ s ht hit ans 3) (an:=an) hfn hc.1 hc.2 fun x z h=>?_
   have h2:=congrFun (congrFun (congrFun hS y) (qCV S n)) x;rw[<-h];exact h2
end
end Go.Sv
