/- Regions that draw their order, whose operations commute: the run. Conditions: none. -/
import Derived.Test.YtpnecffgnjijjaaGreatDoorPur21
set_option linter.all false
namespace Go.Idl
variable [Gc]
variable [Frs]
variable {P:Program}{G:Nat->Bool}{nat:xA}{tab:uQ}{nm:Nm}{good:FuncId->Bool}{rd:Bool}
def xQ (o:Oper):Bool:=match o.op with
 | .call ⟨.value _,_,_⟩=>true
 | _=>false
noncomputable def qIO (ph:PHp):PV->Bool
 | .own k _ _ _=>(match qA k ph with
   | some ob=>ob.cs.all qSS
   | none=>false)
 | x=>qHU x
noncomputable def nA (o:Oper)(env:List PV):List PV:=match o.op with
 | .call ⟨.value f,args,_⟩=>(match target (qJ env f) (args.toList.map (qJ env)) with
   | some (_,as)=>as
   | none=>[.unk])
 | _=>[]
noncomputable def xD (o:Oper)(env:List PV)(ph:PHp):Bool:=(nA o env).all (qIO ph)
noncomputable def pfr (o:Oper)(env:List PV):Option (TypeId×Nat×List FV):=match o.op with
 | .call ⟨.value f,args,_⟩=>(match target (qJ env f) (args.toList.map (qJ env)) with
   | some (g,[.f (.l el n cs)])=>(match Frs.fr g with
     | some el'=>cond (Nat.beq el el') (some (el,n,cs)) none
     | none=>none)
   | _=>none)
 | _=>none
noncomputable def qEG (o:Oper)(env:List PV):Bool:=match pfr o env with
 | some (_,_+1,_)=>true
 | _=>false
noncomputable def okF (o:Oper)(env:List PV):Bool:=okE o||qEG o env
noncomputable def ndF (o:Oper)(env:List PV):Bool:=needs o.op||qEG o env
noncomputable def RF (o:Oper)(k:Nat)(env:List PV):List Nat:=cond (qEG o env) [k] (RC o k env)
def zCI (P:Program)(el:TypeId):Option (List PV×PHp)->Option FV
 | some ([.f (.l el' n cs)],_)=>cond (Nat.beq el el'&&qLG P el n cs) (some (.l el n cs)) none
 | _=>none
noncomputable def pcp (P:Program)(o:Oper)(env:List PV)(ph:PHp):Option FV:=match o.op with
 | .call ⟨.value f,args,_⟩=>(match target (qJ env f) (args.toList.map (qJ env)) with
   | some (g,as)=>(match Frs.fr g with
     | some el=>zCI P el (fzA P as ph)
     | none=>none)
   | none=>none)
 | _=>none
theorem pM {o:Oper}{env:List PV}{ph:PHp}{y:FV}(h:pcp P o env ph=some y):∃ f args ts g as el n cs ph1,o.op=.call ⟨.value f,args,ts⟩∧target (qJ env f) (args.toList.map (qJ env))=some (g,as)∧Frs.fr g=some el∧fzA P as ph=some ([.f (.l el n cs)],ph1)∧qLG P el n cs=true∧y=.l el n cs:=by
 unfold pcp at h;split at h
 case h_2=>cases h
 rename_i f args ts hop;split at h
 case h_2=>cases h
 rename_i g as ht;split at h
 case h_2=>cases h
 rename_i el hg;unfold zCI at h;split at h
 case h_2=>cases h
 rename_i el' n cs ph1 hz;obtain⟨hc,h⟩:=nG h;rw[zMY] at hc;cases h;have:=zMZ hc.1;subst this;exact⟨f,args,ts,g,as,_,n,cs,ph1,hop,ht,hg,hz,hc.2,rfl⟩
theorem qF7 {o:Oper}(hc:¬ ∃ f args ts,o.op=.call ⟨.value f,args,ts⟩)(env:List PV)(ph:PHp):pcp P o env ph=none:=by
 unfold pcp;split
 ·rename_i f args ts hop;exact absurd ⟨f,args,ts,hop⟩ hc
 ·rfl
noncomputable def y5 (P:Program)(tab:uQ)(k:Nat)(o:Oper)(env:List PV)(ph:PHp):PE:=match pfr o env with
 | some (el,n,cs)=>cond (qLG P el n cs) (.ok (frV k el n) (frH k el cs ph n)) .fail
 | none=>cond ((okE o||(!qY o||xQ o))&&xD o env ph) (match pcp P o env ph with
   | some y=>.ok (.f y) ph
   | none=>zL P tab k o env ph) .fail
theorem qHY {k:Nat}{o:Oper}{env:List PV}{ph ph':PHp}{v:PV}{y:FV}(hf:pfr o env=none)(hy:pcp P o env ph=some y)(h:y5 P tab k o env ph=.ok v ph'):v=.f y∧ph'=ph∧xD o env ph=true:=by
 unfold y5 at h;rw[hf] at h;simp only[hy] at h
 cases hc:((okE o||(!qY o||xQ o))&&xD o env ph) with
 | false=>rw[hc] at h;cases h
 | true =>
   rw[hc] at h;rw[zMY] at hc;cases h;exact⟨rfl,rfl,hc.2⟩
theorem r9 {k:Nat}{o:Oper}{env:List PV}{ph:PHp}{y:FV}(hf:pfr o env=none)(hy:pcp P o env ph=some y)(h2:xD o env ph=true):y5 P tab k o env ph=.ok (.f y) ph:=by
 obtain⟨f,args,ts,_,_,_,_,_,_,hop,_⟩:=pM hy;have h1:xQ o=true:=by unfold xQ;rw[hop]
 unfold y5;rw[hf];simp only[hy,h1,h2,zQR,zNX,cond_true]
theorem qHB {k:Nat}{o:Oper}{env:List PV}{ph ph':PHp}{v:PV}(hf:pfr o env=none)(hy:pcp P o env ph=none)(h:y5 P tab k o env ph=.ok v ph'):zL P tab k o env ph=.ok v ph'∧(okE o||(!qY o||xQ o))=true∧xD o env ph=true:=by
 unfold y5 at h;rw[hf] at h;simp only[hy] at h
 cases hc:((okE o||(!qY o||xQ o))&&xD o env ph) with
 | false=>rw[hc] at h;cases h
 | true=>rw[hc] at h;rw[zMY] at hc;exact⟨h,hc⟩
theorem nW {k:Nat}{o:Oper}{env:List PV}{ph ph':PHp}{v:PV}(hf:pfr o env=none)(hy:pcp P o env ph=none)(h:zL P tab k o env ph=.ok v ph')(h1:(okE o||(!qY o||xQ o))=true)(h2:xD o env ph=true):y5 P tab k o env ph=.ok v ph':=by
 unfold y5;rw[hf];simp only[hy,h1,h2,zNX,cond_true];exact h
theorem qBE {k:Nat}{o:Oper}{env:List PV}{ph ph':PHp}{v:PV}{el:TypeId}{n:Nat}{cs:List FV}(hf:pfr o env=some (el,n,cs))(h:y5 P tab k o env ph=.ok v ph'):qLG P el n cs=true∧v=frV k el n∧ph'=frH k el cs ph n:=by
 unfold y5 at h;rw[hf] at h;simp only at h
 cases hc:qLG P el n cs with
 | false=>rw[hc] at h;cases h
 | true=>rw[hc] at h;cases h;exact⟨rfl,rfl,rfl⟩
theorem nL {k:Nat}{o:Oper}{env:List PV}{el:TypeId}{n:Nat}{cs:List FV}(hf:pfr o env=some (el,n,cs))(h:qLG P el n cs=true)(ph:PHp):y5 P tab k o env ph=.ok (frV k el n) (frH k el cs ph n):=by
 unfold y5;rw[hf];simp only[h,cond_true]
theorem qMU {o:Oper}{env:List PV}{el:TypeId}{n:Nat}{cs:List FV}(h:pfr o env=some (el,n,cs)):∃ f args ts g,o.op=.call ⟨.value f,args,ts⟩∧target (qJ env f) (args.toList.map (qJ env))=some (g,[.f (.l el n cs)])∧Frs.fr g=some el:=by
 unfold pfr at h;split at h
 case h_2=>cases h
 rename_i f args ts hop;split at h
 case h_2=>cases h
 rename_i g el1 n1 cs1 ht;split at h
 case h_2=>cases h
 rename_i el2 hg
 cases hc:Nat.beq el1 el2 with
 | false=>rw[hc] at h;cases h
 | true =>
   rw[hc] at h;cases h;have:=zMZ hc;subst this;exact⟨f,args,ts,g,hop,ht,hg⟩
theorem qJ3 {o:Oper}{env:List PV}{el:TypeId}{n:Nat}{cs:List FV}(h:pfr o env=some (el,n,cs)):okE o=false∧needs o.op=false:=by
 obtain⟨f,args,ts,g,hop,_⟩:=qMU h;unfold okE needs;rw[hop];exact⟨rfl,rfl⟩
noncomputable def dlC (o:Oper)(env:List PV):List Nat:=match o.op with
 | .move _ | .assign _=>[]
 | .call ⟨.value _,_,_⟩=>(nA o env).flatMap dl1
 | _=>dlO o env
theorem qAQ {n:Nat}:∀ {cs:List PV},cs.all qSS=true->∃ zs,∀ ph,sN (fz1 P n) cs ph=some (zs,ph)
 | [],_=>⟨[],fun _=>rfl⟩
 | c::cs,h=>by
   simp only[zOD,zMY] at h;obtain⟨zs,hz⟩:=qAQ (n:=n) h.2
   cases c with
   | f x=>exact⟨x::zs,fun ph=>by
      unfold sN;rw[show fz1 P n ph (.f x)=some (x,ph) by cases n <;> rfl]
      simp only[hz]⟩
   | _=>exact absurd h.1 zPT
theorem q5F {α:Type}{p:α->Bool}{l:List α}(h:l.all p=true)(a b:Nat):((l.drop a).take b).all p=true:=zM1.2 fun x hx=>zM1.1 h x (zP2 (zP1 hx))
theorem sW:∀ {as:List PV} {ph ph1:PHp} {ys:List PV},(∀ a∈as,qHU a=true∨∃ k t o n,a=.own k t o n∧∀ ob,qA k ph=some ob->ob.cs.all qSS=true)->fzA P as ph=some (ys,ph1) ->
 ∀ ph',(∀ l∈as.flatMap dl1,qA l ph'=qA l ph)->∃ zIU,fzA P as ph'=some (ys,zIU)
 | [],ph,ph1,ys,_,h,ph',_=>by cases h;exact⟨ph',rfl⟩
 | a::as,ph,ph1,ys,hf,h,ph',hd=>by
   have hd2:∀ l∈as.flatMap dl1,qA l ph'=qA l ph:=fun l hl=>hd l (by rw[zNQ];exact zOX _ hl)
   rcases hf a zM5 with h0 | ⟨k,t,o,n,rfl,hob⟩
   ·have:∃ y,∀ ph,fzP P ph a=some (y,ph):=by
     cases a with
     | f x=>exact⟨_,fun _=>rfl⟩
     | agg cs =>
       obtain⟨zs,hz⟩:=qAQ (P:=P) (n:=4) (cs:=cs) h0;exact⟨_,fun ph=>by unfold fzP;simp only[hz];rfl⟩
     | _=>exact absurd h0 zPT
    obtain⟨y,hy⟩:=this;unfold fzA at h ⊢;rw[hy] at h ⊢;simp only at h ⊢;split at h
    ·rename_i zs p2 hz;cases h;obtain⟨p',hp'⟩:=sW (fun b hb=>hf b (zM3 _ hb)) hz ph' hd2;exact⟨p',by rw[hp']⟩
    ·cases h
   ·have hk:qA k ph'=qA k ph:=hd k (by rw[zNQ];exact zOC _ (by simp[dl1]))
    have key:∃ y,∀ q,qA k q=qA k ph->fzP P q (.own k t o n)=some (y,nN k q):=by
     unfold fzA at h;split at h
     ·rename_i y p1 hp;unfold fzP fz1 at hp;simp only at hp;split at hp
      ·rename_i y0 p0 hp0;split at hp0
       ·rename_i ob zK1;split at hp0
        ·rename_i s hs
         cases hc:Nat.beq (t*s) ob.cs.length with
         | false=>rw[hc] at hp0;cases hp0
         | true =>
           obtain⟨zs,hz⟩:=qAQ (P:=P) (n:=3) (q5F (hob ob zK1) (o*s) (n*s));refine⟨.f (.l ob.el n zs),fun q hq=>?_⟩;unfold fzP fz1;simp only[hq.trans zK1,hs,hc,cond_true,hz]
        ·cases hp0
       ·cases hp0
      ·cases hp
     ·cases h
    obtain⟨y,hy⟩:=key;unfold fzA at h ⊢;rw[hy ph rfl] at h;rw[hy ph' hk];simp only at h ⊢;split at h
    ·rename_i zs p2 hz;cases h
     obtain⟨p',hp'⟩:=sW (fun b hb=>by
      rcases hf b (zM3 _ hb) with h | ⟨k2,t2,o2,n2,rfl,h2⟩
      ·exact .inl h
      ·refine .inr ⟨k2,t2,o2,n2,rfl,fun ob zHR=>?_⟩;rw[yZ] at zHR;split at zHR
       ·cases zHR
       ·exact h2 ob zHR) hz (nN k ph') fun l hl=>by
       rw[yZ,yZ,hd2 l hl]
     exact⟨p',by rw[hp']⟩
    ·cases h
theorem qYP {ph:PHp}{as:List PV}(h:as.all (qIO ph)=true):∀ a∈as,qHU a=true∨∃ k t o n,a=.own k t o n∧∀ ob,qA k ph=some ob->ob.cs.all qSS=true:=fun a ha=>by
 have h1:=zM1.1 h a ha
 cases a with
 | own k t o n =>
   refine .inr ⟨k,t,o,n,rfl,fun ob hob=>?_⟩;unfold qIO at h1;simp only[hob] at h1;exact h1
 | _=>exact .inl h1
theorem qDX {ph ph':PHp}{as:List PV}(hd:∀ l∈as.flatMap dl1,qA l ph'=qA l ph):as.all (qIO ph')=as.all (qIO ph):=by
 induction as with
 | nil=>rfl
 | cons a as ih =>
   rw[zOD,zOD,ih fun l hl=>hd l (by rw[zNQ];exact zOX _ hl)]
   congr 1
   cases a with
   | own k t o n =>
     unfold qIO;simp only[hd k (by rw[zNQ];exact zOC _ (by simp[dl1]))]
   | _=>rfl
theorem qDU {o:Oper}{f:Operand}{args:Array Operand}{ts:Array TypeId}{env:List PV}{g:FuncId}{as:List PV}(ho:o.op=.call ⟨.value f,args,ts⟩)(ht:target (qJ env f) (args.toList.map (qJ env))=some (g,as)):nA o env=as:=by
 unfold nA;rw[ho];simp only[ht]
theorem qES {o:Oper}(hc:¬ ∃ f args ts,o.op=.call ⟨.value f,args,ts⟩)(env:List PV):nA o env=[]:=by
 unfold nA;split
 ·rename_i f args ts hop;exact absurd ⟨f,args,ts,hop⟩ hc
 ·rfl
theorem qCR {o:Oper}{env:List PV}{k:Nat}{ph ph1:PHp}{v:PV}(ho:okF o env=false)(h:y5 P tab k o env ph=.ok v ph1) :
 ph1=ph∧∀ (k':Nat) (ph':PHp),(∀ l∈dlC o env,qA l ph'=qA l ph)->y5 P tab k' o env ph'=.ok v ph':=by
 unfold okF at ho;rw[zPM] at ho
 cases hpf:pfr o env with
 | some q =>
   obtain⟨el,n,cs⟩:=q
   cases n with
   | succ n =>
     have:=ho.2;unfold qEG at this;rw[hpf] at this;cases this
   | zero =>
     obtain⟨a1,rfl,rfl⟩:=qBE hpf h;exact⟨rfl,fun k' ph' _=>nL hpf a1 ph'⟩
 | none =>
 have ho:=ho.1
 have keep:∀ (y:FV) (a b:PHp),(∀ l∈dlC o env,qA l b=qA l a)->xD o env a=true->pcp P o env a=some y->pcp P o env b=some y:=fun y a b hd h3 hy=>by
  obtain⟨f,args,ts,g,as,el,n,cs,p1,hop,ht,hg,hz,hfo,rfl⟩:=pM hy;have hdl:dlC o env=(nA o env).flatMap dl1:=by unfold dlC;rw[hop]
  unfold xD at h3;rw[hdl] at hd;rw[qDU hop ht] at h3 hd;obtain⟨p',hp'⟩:=sW (qYP h3) hz b hd;unfold pcp;rw[hop];simp only[ht,hg,hp'];unfold zCI;simp only[hfo];rw[show Nat.beq el el=true by simp];rfl
 have frz:xQ o=true->∀ a b:PHp,(∀ l∈dlC o env,qA l b=qA l a)->xD o env b=xD o env a:=fun hcv a b hd=>by
  unfold xQ at hcv;split at hcv
  ·rename_i f args ts hop;have hdl:dlC o env=(nA o env).flatMap dl1:=by unfold dlC;rw[hop]
   rw[hdl] at hd;exact qDX hd
  ·cases hcv
 cases hcp:pcp P o env ph with
 | some y =>
   obtain⟨rfl,rfl,h3⟩:=qHY hpf hcp h;obtain⟨f,args,ts,_,_,_,_,_,_,hop,_⟩:=pM hcp;have hcv:xQ o=true:=by unfold xQ;rw[hop]
   exact⟨rfl,fun k' ph' hd=>r9 hpf (keep _ _ _ hd h3 hcp) ((frz hcv _ _ hd).trans h3)⟩
 | none =>
 obtain⟨h1,h2,h3⟩:=qHB hpf hcp h
 have cpn:∀ ph':PHp,(∀ l∈dlC o env,qA l ph'=qA l ph)->pcp P o env ph'=none:=fun ph' hd=>by
  cases hq:pcp P o env ph' with
  | none=>rfl
  | some y =>
    obtain⟨f,args,ts,_,_,_,_,_,_,hop,_⟩:=pM hq;have hcv:xQ o=true:=by unfold xQ;rw[hop]
    have:=keep y ph' ph (fun l hl=>(hd l hl).symm) ((frz hcv _ _ hd).trans h3) hq;rw[hcp] at this;cases this
 by_cases hc:∃ f args ts,o.op=.call ⟨.value f,args,ts⟩
 ·obtain⟨f,args,ts,hop⟩:=hc;refine⟨qB8 hop h1,fun k' ph' hd=>?_⟩;have hdl:dlC o env=(nA o env).flatMap dl1:=by unfold dlC;rw[hop]
  rw[hdl] at hd;refine nW hpf (cpn ph' (by rw[hdl];exact hd)) ?_ h2 (by unfold xD at h3 ⊢;rw[qDX hd];exact h3);unfold xD at h3;unfold zL at h1 ⊢;rw[hop] at h1 ⊢;simp only at h1 ⊢;split at h1
  ·rename_i g as ht;rw[qDU hop ht] at h3 hd;unfold pW at h1 ⊢;split at h1
   ·rename_i ys p1 hz;obtain⟨p',hp'⟩:=sW (qYP h3) hz ph' hd;rw[hp'];simp only;split at h1
    ·rename_i r hr
     cases hcc:(j4 r||as.all qHU) with
     | true=>rw[hcc] at h1;cases h1;rfl
     | false=>rw[hcc] at h1;cases h1
    ·cases h1
   ·cases h1
  ·cases h1
 ·have hcv:xQ o=false:=by
   unfold xQ;split
   ·rename_i f args ts hop;exact absurd ⟨f,args,ts,hop⟩ hc
   ·rfl
  have go:(∀ (k':Nat) (ph':PHp),(∀ l∈dlC o env,qA l ph'=qA l ph)->zL P tab k' o env ph'=.ok v ph')->∀ (k':Nat) (ph':PHp),(∀ l∈dlC o env,qA l ph'=qA l ph)->y5 P tab k' o env ph'=.ok v ph':=fun g k' ph' hd=>nW hpf (qF7 hc _ _) (g k' ph' hd) h2 (by unfold xD;rw[qES hc];rfl)
  rw[ho,hcv,zPW,zQZ,zNJ] at h2;obtain⟨e1,e2⟩:=mV h2;obtain⟨d1,d2⟩:=qN9 e1 e2 h1;subst d1;refine⟨rfl,go ?_⟩;intro k' ph' hd;unfold dlC at hd;split at hd
  ·rename_i x hop;have h1:=wE ((kL hc _ _ _).symm.trans h1);rw[kL hc];unfold sS at h1 ⊢;rw[hop] at h1 ⊢;cases h1;rfl
  ·rename_i x hop;have h1:=wE ((kL hc _ _ _).symm.trans h1);rw[kL hc];unfold sS at h1 ⊢;rw[hop] at h1 ⊢;cases h1;rfl
  ·rename_i f args ts hop;exact absurd ⟨f,args,ts,hop⟩ hc
  ·exact d2 k' ph' hd
theorem qU3 {o:Oper}(ho:okE o=true)(k:Nat)(env:List PV)(ph:PHp):zL P tab k o env ph=peO (sS P o env k ph):=kL (fun ⟨f,args,ts,h⟩=>by
 unfold okE at ho;rw[h] at ho
 cases ho) k env ph
noncomputable def bK (R:List Nat)(ph:PHp):PHp:=R.filterMap fun l=>(qA l ph).map fun ob=>(l,ob)
noncomputable def q8Y (b:Array Nat)(ph0:PHp)(zFE:List PV)(E F:List (Nat×List Nat))(N:List (Nat×Nat))(V:List (Nat×PV))(O:List (Nat×PHp)):Bool :=
 (E.all fun e=>(E++F).all fun f=>Nat.beq e.1 f.1||(qPJ b e.1 f.1||f.2.all fun l=>!e.2.contains l)) &&
   N.all fun n=>zZ n.2 zFE&&(gZ n.2 ph0&&((V.all fun v=>Nat.beq v.1 n.1||(vH b n.1 v.1||noK n.2 v.2))&&O.all fun c=>Nat.beq c.1 n.1||(vH b n.1 c.1||gZ n.2 c.2)))
noncomputable def qLB (P:Program)(tab:uQ)(nm:Nm)(ds:List (Option Tmp))(b:Array Nat)(zFE:List PV)(ph0:PHp):Nat->List Oper->List PV->PHp->List (Nat×List Nat)->List (Nat×List Nat)->List (Nat×Nat)->List (Nat×PV)->List (Nat×PHp)->PT
 | i,[],env,ph,E,F,N,V,O=>.chk (q8Y b ph0 zFE E F N V O) (.ret env ph)
 | i,o::l,env,ph,E,F,N,V,O=>vB (j5 ds o env)
    (match y5 P tab (qH nm o.dst) o env ph with
     | .ok v ph'=>qBL (ndF o env) (inP nm (qH nm o.dst)) (qLB P tab nm ds b zFE ph0 (i+1) l (yL env o.dst v) ph' (cond (okF o env) ((i,RF o (qH nm o.dst) env)::E) E) (cond (okF o env) F ((i,dlC o env)::F)) (cond (ndF o env) ((i,qH nm o.dst)::N) N) ((i,v)::V) (cond (okF o env) ((i,bK (RF o (qH nm o.dst) env) ph')::O) O))
     | _=>.fail)
    (qLB P tab nm ds b zFE ph0 (i+1) l (yL env o.dst (.tup [])) ph E F N ((i,.tup [])::V) O) .fail
structure TrC (P:Program) (tab:uQ) (nm:Nm) (ds:List (Option Tmp)) (ops:List Oper) (zFE:List PV) (ph0:PHp) (En:Nat->List PV) (Hs:Nat->PHp) (V:Nat->PV) (j:Nat) (E F:List (Nat×List Nat)) (N:List (Nat×Nat)) (W:List (Nat×PV)) (O:List (Nat×PHp)):Prop where
 e0:En 0=zFE
 h0:Hs 0=ph0
 step:∀ i o,ops[i]?=some o->En (i+1)=yL (En i) o.dst (V i)∧(j+i,V i)∈W ∧
  ((j5 ds o (En i)=some true∧y5 P tab (qH nm o.dst) o (En i) (Hs i)=.ok (V i) (Hs (i+1))∧(ndF o (En i)=true->inP nm (qH nm o.dst)=true∧(j+i,qH nm o.dst)∈N) ∧
     (okF o (En i)=true->(j+i,RF o (qH nm o.dst) (En i))∈E∧(j+i,bK (RF o (qH nm o.dst) (En i)) (Hs (i+1)))∈O)∧(okF o (En i)=false->(j+i,dlC o (En i))∈F)) ∨
    (j5 ds o (En i)=some false∧V i=.tup []∧Hs (i+1)=Hs i))
theorem qCA {Q:List PV->PHp->Prop}{ds:List (Option Tmp)}{b:Array Nat}{zFE:List PV}{ph0:PHp}:∀ (l:List Oper) (j:Nat) (env:List PV) (ph:PHp) (E F:List (Nat×List Nat)) (N:List (Nat×Nat)) (W:List (Nat×PV)) (O:List (Nat×PHp)),
 (qLB P tab nm ds b zFE ph0 j l env ph E F N W O).holds P G Q->∃ En Hs V E' F' N' W' O',TrC P tab nm ds l env ph En Hs V j E' F' N' W' O'∧(∀ x∈E,x∈E')∧(∀ x∈F,x∈F')∧(∀ x∈N,x∈N')∧(∀ x∈W,x∈W')∧(∀ x∈O,x∈O')∧q8Y b ph0 zFE E' F' N' W' O'=true∧Q (En l.length) (Hs l.length)
 | [],j,env,ph,E,F,N,W,O,h=>⟨fun _=>env,fun _=>ph,fun _=>.unk,E,F,N,W,O,⟨rfl,rfl,fun i o h=>by simp at h⟩,fun _ h=>h,fun _ h=>h,fun _ h=>h,fun _ h=>h,fun _ h=>h,h.1,h.2⟩
 | o::l,j,env,ph,E,F,N,W,O,h=>by
   unfold qLB vB at h;split at h
   ·rename_i hw;split at h
    ·rename_i v ph' hx
     have hh:(ndF o env=true->inP nm (qH nm o.dst)=true)∧(qLB P tab nm ds b zFE ph0 (j+1) l (yL env o.dst v) ph' (cond (okF o env) ((j,RF o (qH nm o.dst) env)::E) E) (cond (okF o env) F ((j,dlC o env)::F)) (cond (ndF o env) ((j,qH nm o.dst)::N) N) ((j,v)::W) (cond (okF o env) ((j,bK (RF o (qH nm o.dst) env) ph')::O) O)).holds P G Q:=by
      unfold qBL at h
      cases hn:ndF o env with
      | true=>rw[hn] at h;exact⟨fun _=>h.1,h.2⟩
      | false=>rw[hn] at h;exact⟨fun h=>by (cases h),h⟩
     obtain⟨hc,h⟩:=hh;obtain⟨En,Hs,V,E',F',N',W',O',t,a1,a2,a3,a4,a7,a5,a6⟩:=qCA l (j+1) _ _ _ _ _ _ _ h;refine⟨fun i=>Nat.casesOn i env fun i=>En i,fun i=>Nat.casesOn i ph fun i=>Hs i,fun i=>Nat.casesOn i v fun i=>V i,E',F',N',W',O',⟨rfl,rfl,fun i p hi=>?_⟩,fun x hx=>a1 x ?_,fun x hx=>a2 x ?_,fun x hx=>a3 x ?_,fun x hx=>a4 x (zM3 _ hx),fun x hx=>a7 x ?_,a5,a6⟩
     ·cases i with
      | zero =>
        simp only[zNS,zM7] at hi;subst hi;have e0:Hs 0=ph':=t.h0;have hx0:y5 P tab (qH nm o.dst) o env ph=.ok v (Hs 0):=by rw[e0];exact hx
        refine⟨t.e0,a4 _ zM5,.inl ⟨hw,hx0,fun hn=>?_,fun he=>?_,fun he=>?_⟩⟩
        ·have hn:ndF o env=true:=hn;exact⟨hc hn,a3 _ (by rw[hn];exact zM5)⟩
        ·have he:okF o env=true:=he;refine⟨a1 _ (by rw[he];exact zM5),a7 _ ?_⟩;show (j,bK (RF o (qH nm o.dst) env) (Hs 0))∈_;rw[he,e0];exact zM5
        ·have he:okF o env=false:=he;exact a2 _ (by rw[he];exact zM5)
      | succ i =>
        have:=t.step i p (by simpa using hi);rw[show j+1+i=j+(i+1) by omega] at this;exact this
     ·cases okF o env
      ·exact hx
      ·exact zM3 _ hx
     ·cases okF o env
      ·exact zM3 _ hx
      ·exact hx
     ·cases ndF o env
      ·exact hx
      ·exact zM3 _ hx
     ·cases okF o env
      ·exact hx
      ·exact zM3 _ hx
    ·exact h.elim
   ·rename_i hw;obtain⟨En,Hs,V,E',F',N',W',O',t,a1,a2,a3,a4,a7,a5,a6⟩:=qCA l (j+1) _ _ _ _ _ _ _ h;refine⟨fun i=>Nat.casesOn i env fun i=>En i,fun i=>Nat.casesOn i ph fun i=>Hs i,fun i=>Nat.casesOn i (.tup []) fun i=>V i,E',F',N',W',O',⟨rfl,rfl,fun i p hi=>?_⟩,a1,a2,a3,fun x hx=>a4 x (zM3 _ hx),a7,a5,a6⟩
    cases i with
    | zero =>
      simp only[zNS,zM7] at hi;subst hi;exact⟨t.e0,a4 _ zM5,.inr ⟨hw,rfl,t.h0⟩⟩
    | succ i =>
      have:=t.step i p (by simpa using hi);rw[show j+1+i=j+(i+1) by omega] at this;exact this
   ·exact h.elim
def mG (ops:Array Oper):Bool :=
 let b:=Region.before ops
 let l:=ops.toList.zipIdx
 l.all fun (o,i) =>
  (o.after.all fun e=>!Region.binds .any e||decide (e.on < i)) &&
  l.all fun (p,j)=>decide (i=j)||(match o.dst with
   | some d=>p.dst != some d&&(!((uE ops p).contains d)||cond (qL o) (vH b i j) (qPJ b i j))
   | none=>true)
theorem q1B {ops:Array Oper}(h:mG ops=true):zG0 ops:=by
 unfold mG at h;simp only[zM1] at h
 have h1:∀ i o,ops[i]?=some o->∀ e∈o.after,Region.binds .any e=true->e.on < i:=by
  intro i o ho e he hb;have:=h (o,i) (bE.2 (by simpa using ho));simp only[zMY,zPB] at this;have:=this.1 e he;rw[hb] at this;simpa using this
 have h2:∀ (i j:Nat) (o p:Oper),i≠j->ops[i]?=some o->ops[j]?=some p ->
  (match o.dst with
    | some d=>p.dst != some d&&(!((uE ops p).contains d)||cond (qL o) (vH (Region.before ops) i j) (qPJ (Region.before ops) i j))
    | none=>true)=true:=by
  intro i j o p hij ho hp;have h3:=h (o,i) (bE.2 (by simpa using ho));simp only[zMY,zM1] at h3;have h4:=h3.2 (p,j) (bE.2 (by simpa using hp));simp only[hij,decide_false,zPW] at h4;exact h4
 refine⟨h1,?_,?_⟩
 ·intro i j o p d hij ho hp hd;have:=h2 i j o p hij ho hp;rw[hd] at this;simp only[zMY,bne_iff_ne,ne_eq] at this;exact this.1
 ·intro i j o p d hij ho hp hd hr;have:=h2 i j o p hij ho hp;rw[hd] at this;simp only[zMY] at this;have:=this.2;have hc:(uE ops p).contains d=true:=List.contains_iff_mem.2 hr;rw[hc] at this;simp only[zQY,zPW] at this
  cases ha:qL o with
  | true=>rw[ha] at this;exact .inl this
  | false =>
    rw[ha] at this;simp only[cond_false,qPJ,zN1] at this;rcases this with h | h
    ·exact .inl h
    ·exact .inr ⟨rfl,h⟩
open Classical in
noncomputable def lst (S:Array Bool)(Wt:Nat->List Nat)(l:Nat):Nat->Nat
 | 0=>0
 | n+1=>if sel S n∧l∈Wt n then n+1 else lst S Wt l n
theorem qB2 {S:Array Bool}{Wt:Nat->List Nat}{l:Nat}:∀ (n:Nat),lst S Wt l n=0∨∃ i,i < n∧lst S Wt l n=i+1∧sel S i∧l∈Wt i
 | 0=>.inl rfl
 | n+1=>by
   unfold lst;by_cases h:sel S n∧l∈Wt n
   ·rw[if_pos h];exact .inr ⟨n,zNV _,rfl,h⟩
   ·rw[if_neg h]
    rcases qB2 (S:=S) (Wt:=Wt) (l:=l) n with h | ⟨i,h1,h2⟩
    ·exact .inl h
    ·exact .inr ⟨i,zOM h1,h2⟩
theorem qKQ {S S':Array Bool}{Wt:Nat->List Nat}{l:Nat}:∀ (n:Nat),(∀ i,i < n->l∈Wt i->(sel S i ↔ sel S' i))->lst S Wt l n=lst S' Wt l n
 | 0,_=>rfl
 | n+1,h=>by
   unfold lst;have ih:=qKQ n fun i hi=>h i (by omega)
   by_cases hl:l∈Wt n
   ·have:=h n (by omega) hl;by_cases hs:sel S n
    ·rw[if_pos ⟨hs,hl⟩,if_pos ⟨this.1 hs,hl⟩]
    ·rw[if_neg (fun q=>hs q.1),if_neg (fun q=>hs (this.2 q.1)),ih]
   ·rw[if_neg (fun q=>hl q.2),if_neg (fun q=>hl q.2),ih]
theorem rJ {S:Array Bool}{Wt:Nat->List Nat}{Hs:Nat->PHp}{l j:Nat}:∀ (n:Nat),(∀ i,i < n->l ∉ Wt i->qA l (Hs (i+1))=qA l (Hs i))->(∀ i,i < n->l∈Wt i->(sel S i ↔ i < j))->qA l (Hs (lst S Wt l n))=qA l (Hs (min n j))
 | 0,_,_=>by rw[Nat.zero_min];rfl
 | n+1,h1,h2=>by
   have ih:=rJ n (fun i hi=>h1 i (by omega)) fun i hi=>h2 i (by omega)
   unfold lst;by_cases h:sel S n∧l∈Wt n
   ·rw[if_pos h];have:=(h2 n (by omega) h.2).1 h.1;rw[zOP (by omega)]
   ·rw[if_neg h,ih];by_cases hj:n < j
    ·have hl:l ∉ Wt n:=fun hl=>h ⟨(h2 n (by omega) hl).2 hj,hl⟩
     rw[zOP (by omega),zOP (by omega),h1 n (by omega) hl]
    ·rw[zQH (by omega),zQH (by omega)]
theorem qAB {g:Nat->Option PO}{l:Nat}:∀ (L:PHp),qA l (L.filterMap fun p=>(g p.1).map fun o=>(p.1,o))=if (qA l L).isSome then g l else none
 | []=>rfl
 | (k,o)::L=>by
   rw[zRD];by_cases e:l=k
   ·subst e;rw[show qA l ((l,o)::L)=some o by simp[qA]];simp only[zQP,if_true]
    cases hg:g l with
    | none =>
      simp only[zRA];rw[qAB L,hg];split <;> rfl
    | some q=>simp[qA]
   ·rw[yG e]
    cases hg:g k with
    | none=>simp only[zRA];exact qAB L
    | some q=>simp only[zNE];rw[yG e];exact qAB L
theorem qWL {k:Nat}:∀ {L:PHp},(∀ p∈L,zZ k p.2.cs=true)->gZ k L=true
 | [],_=>rfl
 | (i,o)::L,h=>by
   simp only[gZ,zMY];exact⟨h (i,o) zM5,qWL fun p hp=>h p (zM3 _ hp)⟩
theorem qP5 {k:Nat}:∀ {L:PHp} {p:Nat×PO},gZ k L=true->p∈L->zZ k p.2.cs=true
 | (i,o)::L,p,h,hp=>by
   simp only[gZ,zMY] at h;rcases zNF.1 hp with rfl | hp
   ·exact h.1
   ·exact qP5 h.2 hp
theorem qBU {m:Nat->Nat}{a b:PHp}(h:∀ l,qA l a=qA l b):own m a=own m b:=funext fun l=>by unfold own;rw[h]
end Go.Idl
