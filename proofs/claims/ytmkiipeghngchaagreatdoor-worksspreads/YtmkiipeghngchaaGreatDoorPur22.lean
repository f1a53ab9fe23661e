/- Regions that draw their order, whose operations commute: the run. Conditions: none. -/
import Derived.Test.YtmkiipeghngchaaGreatDoorPur21
set_option linter.all false
namespace Go.Idl
variable [Gc]
variable [Frs]
variable {P:Program}{G:Nat->Bool}{nat:xB}{tab:u6}{nm:Nm}{good:FuncId->Bool}{rd:Bool}
def kF (o:Oper):Bool:=match o.op with
 | .call ⟨.value _,_,_⟩=>true
 | _=>false
noncomputable def qK5 (ph:PHp):PV->Bool
 | .own k _ _ _=>(match qA k ph with
   | some ob=>ob.cs.all qTQ
   | none=>false)
 | x=>qL3 x
noncomputable def nQ (o:Oper)(env:List PV):List PV:=match o.op with
 | .call ⟨.value f,args,_⟩=>(match target (qJ env f) (args.toList.map (qJ env)) with
   | some (_,as)=>as
   | none=>[.unk])
 | _=>[]
noncomputable def xH (o:Oper)(env:List PV)(ph:PHp):Bool:=(nQ o env).all (qK5 ph)
noncomputable def pfr (o:Oper)(env:List PV):Option (TypeId×Nat×List FV):=match o.op with
 | .call ⟨.value f,args,_⟩=>(match target (qJ env f) (args.toList.map (qJ env)) with
   | some (g,[.f (.l el n cs)])=>(match Frs.fr g with
     | some el'=>cond (Nat.beq el el') (some (el,n,cs)) none
     | none=>none)
   | _=>none)
 | _=>none
noncomputable def qEU (o:Oper)(env:List PV):Bool:=match pfr o env with
 | some (_,_+1,_)=>true
 | _=>false
noncomputable def okF (o:Oper)(env:List PV):Bool:=okE o||qEU o env
noncomputable def ndF (o:Oper)(env:List PV):Bool:=needs o.op||qEU o env
noncomputable def RF (o:Oper)(k:Nat)(env:List PV):List Nat:=cond (qEU o env) [k] (RC o k env)
def zCB (P:Program)(el:TypeId):Option (List PV×PHp)->Option FV
 | some ([.f (.l el' n cs)],_)=>cond (Nat.beq el el'&&qL8 P el n cs) (some (.l el n cs)) none
 | _=>none
noncomputable def pcp (P:Program)(o:Oper)(env:List PV)(ph:PHp):Option FV:=match o.op with
 | .call ⟨.value f,args,_⟩=>(match target (qJ env f) (args.toList.map (qJ env)) with
   | some (g,as)=>(match Frs.fr g with
     | some el=>zCB P el (fzA P as ph)
     | none=>none)
   | none=>none)
 | _=>none
theorem rU {o:Oper}{env:List PV}{ph:PHp}{y:FV}(h:pcp P o env ph=some y):∃ f args ts g as el n cs ph1,o.op=.call ⟨.value f,args,ts⟩∧target (qJ env f) (args.toList.map (qJ env))=some (g,as)∧Frs.fr g=some el∧fzA P as ph=some ([.f (.l el n cs)],ph1)∧qL8 P el n cs=true∧y=.l el n cs:=by
 unfold pcp at h;split at h
 case h_2=>cases h
 rename_i f args ts hop;split at h
 case h_2=>cases h
 rename_i g as ht;split at h
 case h_2=>cases h
 rename_i el hg;unfold zCB at h;split at h
 case h_2=>cases h
 rename_i el' n cs ph1 hz;obtain⟨hc,h⟩:=yN h;rw[zOT] at hc;cases h;have:=zOU hc.1;subst this;exact⟨f,args,ts,g,as,_,n,cs,ph1,hop,ht,hg,hz,hc.2,rfl⟩
theorem qGL {o:Oper}(hc:¬ ∃ f args ts,o.op=.call ⟨.value f,args,ts⟩)(env:List PV)(ph:PHp):pcp P o env ph=none:=by
 unfold pcp;split
 ·rename_i f args ts hop;exact absurd ⟨f,args,ts,hop⟩ hc
 ·rfl
noncomputable def yX (P:Program)(tab:u6)(k:Nat)(o:Oper)(env:List PV)(ph:PHp):PE:=match pfr o env with
 | some (el,n,cs)=>cond (qL8 P el n cs) (.ok (frV k el n) (frH k el cs ph n)) .fail
 | none=>cond ((okE o||(!qZ o||kF o))&&xH o env ph) (match pcp P o env ph with
   | some y=>.ok (.f y) ph
   | none=>zK P tab k o env ph) .fail
theorem qKO {k:Nat}{o:Oper}{env:List PV}{ph ph':PHp}{v:PV}{y:FV}(hf:pfr o env=none)(hy:pcp P o env ph=some y)(h:yX P tab k o env ph=.ok v ph'):v=.f y∧ph'=ph∧xH o env ph=true:=by
 unfold yX at h;rw[hf] at h;simp only[hy] at h
 cases hc:((okE o||(!qZ o||kF o))&&xH o env ph) with
 | false=>rw[hc] at h;cases h
 | true =>
   rw[hc] at h;rw[zOT] at hc;cases h;exact⟨rfl,rfl,hc.2⟩
theorem tH {k:Nat}{o:Oper}{env:List PV}{ph:PHp}{y:FV}(hf:pfr o env=none)(hy:pcp P o env ph=some y)(h2:xH o env ph=true):yX P tab k o env ph=.ok (.f y) ph:=by
 obtain⟨f,args,ts,_,_,_,_,_,_,hop,_⟩:=rU hy;have h1:kF o=true:=by unfold kF;rw[hop]
 unfold yX;rw[hf];simp only[hy,h1,h2,zTC,zPQ,cond_true]
theorem qHY {k:Nat}{o:Oper}{env:List PV}{ph ph':PHp}{v:PV}(hf:pfr o env=none)(hy:pcp P o env ph=none)(h:yX P tab k o env ph=.ok v ph'):zK P tab k o env ph=.ok v ph'∧(okE o||(!qZ o||kF o))=true∧xH o env ph=true:=by
 unfold yX at h;rw[hf] at h;simp only[hy] at h
 cases hc:((okE o||(!qZ o||kF o))&&xH o env ph) with
 | false=>rw[hc] at h;cases h
 | true=>rw[hc] at h;rw[zOT] at hc;exact⟨h,hc⟩
theorem o6 {k:Nat}{o:Oper}{env:List PV}{ph ph':PHp}{v:PV}(hf:pfr o env=none)(hy:pcp P o env ph=none)(h:zK P tab k o env ph=.ok v ph')(h1:(okE o||(!qZ o||kF o))=true)(h2:xH o env ph=true):yX P tab k o env ph=.ok v ph':=by
 unfold yX;rw[hf];simp only[hy,h1,h2,zPQ,cond_true];exact h
theorem qB4 {k:Nat}{o:Oper}{env:List PV}{ph ph':PHp}{v:PV}{el:TypeId}{n:Nat}{cs:List FV}(hf:pfr o env=some (el,n,cs))(h:yX P tab k o env ph=.ok v ph'):qL8 P el n cs=true∧v=frV k el n∧ph'=frH k el cs ph n:=by
 unfold yX at h;rw[hf] at h;simp only at h
 cases hc:qL8 P el n cs with
 | false=>rw[hc] at h;cases h
 | true=>rw[hc] at h;cases h;exact⟨rfl,rfl,rfl⟩
theorem oL {k:Nat}{o:Oper}{env:List PV}{el:TypeId}{n:Nat}{cs:List FV}(hf:pfr o env=some (el,n,cs))(h:qL8 P el n cs=true)(ph:PHp):yX P tab k o env ph=.ok (frV k el n) (frH k el cs ph n):=by
 unfold yX;rw[hf];simp only[h,cond_true]
theorem qOE {o:Oper}{env:List PV}{el:TypeId}{n:Nat}{cs:List FV}(h:pfr o env=some (el,n,cs)):∃ f args ts g,o.op=.call ⟨.value f,args,ts⟩∧target (qJ env f) (args.toList.map (qJ env))=some (g,[.f (.l el n cs)])∧Frs.fr g=some el:=by
 unfold pfr at h;split at h
 case h_2=>cases h
 rename_i f args ts hop;split at h
 case h_2=>cases h
 rename_i g el1 n1 cs1 ht;split at h
 case h_2=>cases h
 rename_i el2 hg
 cases hc:Nat.beq el1 el2 with
 | false=>rw[hc] at h;cases h
 | true =>
   rw[hc] at h;cases h;have:=zOU hc;subst this;exact⟨f,args,ts,g,hop,ht,hg⟩
theorem qJL {o:Oper}{env:List PV}{el:TypeId}{n:Nat}{cs:List FV}(h:pfr o env=some (el,n,cs)):okE o=false∧needs o.op=false:=by
 obtain⟨f,args,ts,g,hop,_⟩:=qOE h;unfold okE needs;rw[hop];exact⟨rfl,rfl⟩
noncomputable def dlC (o:Oper)(env:List PV):List Nat:=match o.op with
 | .move _ | .assign _=>[]
 | .call ⟨.value _,_,_⟩=>(nQ o env).flatMap dl1
 | _=>dlO o env
theorem qBW {n:Nat}:∀ {cs:List PV},cs.all qTQ=true->∃ zs,∀ ph,tZ (fz1 P n) cs ph=some (zs,ph)
 | [],_=>⟨[],fun _=>rfl⟩
 | c::cs,h=>by
   simp only[zQB,zOT] at h;obtain⟨zs,hz⟩:=qBW (n:=n) h.2
   cases c with
   | f x=>exact⟨x::zs,fun ph=>by
      unfold tZ;rw[show fz1 P n ph (.f x)=some (x,ph) by cases n <;> rfl]
      simp only[hz]⟩
   | _=>exact absurd h.1 zRN
theorem q6K {α:Type}{p:α->Bool}{l:List α}(h:l.all p=true)(a b:Nat):((l.drop a).take b).all p=true:=zOW.2 fun x hx=>zOW.1 h x (zRT (zRS hx))
theorem qAK:∀ {as:List PV} {ph ph1:PHp} {ys:List PV},(∀ a∈as,qL3 a=true∨∃ k t o n,a=.own k t o n∧∀ ob,qA k ph=some ob->ob.cs.all qTQ=true)->fzA P as ph=some (ys,ph1) ->
 ∀ ph',(∀ l∈as.flatMap dl1,qA l ph'=qA l ph)->∃ zI2,fzA P as ph'=some (ys,zI2)
 | [],ph,ph1,ys,_,h,ph',_=>by cases h;exact⟨ph',rfl⟩
 | a::as,ph,ph1,ys,hf,h,ph',hd=>by
   have hd2:∀ l∈as.flatMap dl1,qA l ph'=qA l ph:=fun l hl=>hd l (by rw[zPO];exact zQV _ hl)
   rcases hf a zO3 with h0 | ⟨k,t,o,n,rfl,hob⟩
   ·have:∃ y,∀ ph,fzP P ph a=some (y,ph):=by
     cases a with
     | f x=>exact⟨_,fun _=>rfl⟩
     | agg cs =>
       obtain⟨zs,hz⟩:=qBW (P:=P) (n:=4) (cs:=cs) h0;exact⟨_,fun ph=>by unfold fzP;simp only[hz];rfl⟩
     | _=>exact absurd h0 zRN
    obtain⟨y,hy⟩:=this;unfold fzA at h ⊢;rw[hy] at h ⊢;simp only at h ⊢;split at h
    ·rename_i zs p2 hz;cases h;obtain⟨p',hp'⟩:=qAK (fun b hb=>hf b (zO0 _ hb)) hz ph' hd2;exact⟨p',by rw[hp']⟩
    ·cases h
   ·have hk:qA k ph'=qA k ph:=hd k (by rw[zPO];exact zP5 _ (by simp[dl1]))
    have key:∃ y,∀ q,qA k q=qA k ph->fzP P q (.own k t o n)=some (y,oK k q):=by
     unfold fzA at h;split at h
     ·rename_i y p1 hp;unfold fzP fz1 at hp;simp only at hp;split at hp
      ·rename_i y0 p0 hp0;split at hp0
       ·rename_i ob zLR;split at hp0
        ·rename_i s hs
         cases hc:Nat.beq (t*s) ob.cs.length with
         | false=>rw[hc] at hp0;cases hp0
         | true =>
           obtain⟨zs,hz⟩:=qBW (P:=P) (n:=3) (q6K (hob ob zLR) (o*s) (n*s));refine⟨.f (.l ob.el n zs),fun q hq=>?_⟩;unfold fzP fz1;simp only[hq.trans zLR,hs,hc,cond_true,hz]
        ·cases hp0
       ·cases hp0
      ·cases hp
     ·cases h
    obtain⟨y,hy⟩:=key;unfold fzA at h ⊢;rw[hy ph rfl] at h;rw[hy ph' hk];simp only at h ⊢;split at h
    ·rename_i zs p2 hz;cases h
     obtain⟨p',hp'⟩:=qAK (fun b hb=>by
      rcases hf b (zO0 _ hb) with h | ⟨k2,t2,o2,n2,rfl,h2⟩
      ·exact .inl h
      ·refine .inr ⟨k2,t2,o2,n2,rfl,fun ob zHL=>?_⟩;rw[yV] at zHL;split at zHL
       ·cases zHL
       ·exact h2 ob zHL) hz (oK k ph') fun l hl=>by
       rw[yV,yV,hd2 l hl]
     exact⟨p',by rw[hp']⟩
    ·cases h
theorem qV1 {ph:PHp}{as:List PV}(h:as.all (qK5 ph)=true):∀ a∈as,qL3 a=true∨∃ k t o n,a=.own k t o n∧∀ ob,qA k ph=some ob->ob.cs.all qTQ=true:=fun a ha=>by
 have h1:=zOW.1 h a ha
 cases a with
 | own k t o n =>
   refine .inr ⟨k,t,o,n,rfl,fun ob hob=>?_⟩;unfold qK5 at h1;simp only[hob] at h1;exact h1
 | _=>exact .inl h1
theorem qE4 {ph ph':PHp}{as:List PV}(hd:∀ l∈as.flatMap dl1,qA l ph'=qA l ph):as.all (qK5 ph')=as.all (qK5 ph):=by
 induction as with
 | nil=>rfl
 | cons a as ih =>
   rw[zQB,zQB,ih fun l hl=>hd l (by rw[zPO];exact zQV _ hl)]
   congr 1
   cases a with
   | own k t o n =>
     unfold qK5;simp only[hd k (by rw[zPO];exact zP5 _ (by simp[dl1]))]
   | _=>rfl
theorem qED {o:Oper}{f:Operand}{args:Array Operand}{ts:Array TypeId}{env:List PV}{g:FuncId}{as:List PV}(ho:o.op=.call ⟨.value f,args,ts⟩)(ht:target (qJ env f) (args.toList.map (qJ env))=some (g,as)):nQ o env=as:=by
 unfold nQ;rw[ho];simp only[ht]
theorem qFF {o:Oper}(hc:¬ ∃ f args ts,o.op=.call ⟨.value f,args,ts⟩)(env:List PV):nQ o env=[]:=by
 unfold nQ;split
 ·rename_i f args ts hop;exact absurd ⟨f,args,ts,hop⟩ hc
 ·rfl
theorem qCD {o:Oper}{env:List PV}{k:Nat}{ph ph1:PHp}{v:PV}(ho:okF o env=false)(h:yX P tab k o env ph=.ok v ph1) :
 ph1=ph∧∀ (k':Nat) (ph':PHp),(∀ l∈dlC o env,qA l ph'=qA l ph)->yX P tab k' o env ph'=.ok v ph':=by
 unfold okF at ho;rw[zTB] at ho
 cases hpf:pfr o env with
 | some q =>
   obtain⟨el,n,cs⟩:=q
   cases n with
   | succ n =>
     have:=ho.2;unfold qEU at this;rw[hpf] at this;cases this
   | zero =>
     obtain⟨a1,rfl,rfl⟩:=qB4 hpf h;exact⟨rfl,fun k' ph' _=>oL hpf a1 ph'⟩
 | none =>
 have ho:=ho.1
 have keep:∀ (y:FV) (a b:PHp),(∀ l∈dlC o env,qA l b=qA l a)->xH o env a=true->pcp P o env a=some y->pcp P o env b=some y:=fun y a b hd h3 hy=>by
  obtain⟨f,args,ts,g,as,el,n,cs,p1,hop,ht,hg,hz,hfo,rfl⟩:=rU hy;have hdl:dlC o env=(nQ o env).flatMap dl1:=by unfold dlC;rw[hop]
  unfold xH at h3;rw[hdl] at hd;rw[qED hop ht] at h3 hd;obtain⟨p',hp'⟩:=qAK (qV1 h3) hz b hd;unfold pcp;rw[hop];simp only[ht,hg,hp'];unfold zCB;simp only[hfo];rw[show Nat.beq el el=true by simp];rfl
 have frz:kF o=true->∀ a b:PHp,(∀ l∈dlC o env,qA l b=qA l a)->xH o env b=xH o env a:=fun hcv a b hd=>by
  unfold kF at hcv;split at hcv
  ·rename_i f args ts hop;have hdl:dlC o env=(nQ o env).flatMap dl1:=by unfold dlC;rw[hop]
   rw[hdl] at hd;exact qE4 hd
  ·cases hcv
 cases hcp:pcp P o env ph with
 | some y =>
   obtain⟨rfl,rfl,h3⟩:=qKO hpf hcp h;obtain⟨f,args,ts,_,_,_,_,_,_,hop,_⟩:=rU hcp;have hcv:kF o=true:=by unfold kF;rw[hop]
   exact⟨rfl,fun k' ph' hd=>tH hpf (keep _ _ _ hd h3 hcp) ((frz hcv _ _ hd).trans h3)⟩
 | none =>
 obtain⟨h1,h2,h3⟩:=qHY hpf hcp h
 have cpn:∀ ph':PHp,(∀ l∈dlC o env,qA l ph'=qA l ph)->pcp P o env ph'=none:=fun ph' hd=>by
  cases hq:pcp P o env ph' with
  | none=>rfl
  | some y =>
    obtain⟨f,args,ts,_,_,_,_,_,_,hop,_⟩:=rU hq;have hcv:kF o=true:=by unfold kF;rw[hop]
    have:=keep y ph' ph (fun l hl=>(hd l hl).symm) ((frz hcv _ _ hd).trans h3) hq;rw[hcp] at this;cases this
 by_cases hc:∃ f args ts,o.op=.call ⟨.value f,args,ts⟩
 ·obtain⟨f,args,ts,hop⟩:=hc;refine⟨qBN hop h1,fun k' ph' hd=>?_⟩;have hdl:dlC o env=(nQ o env).flatMap dl1:=by unfold dlC;rw[hop]
  rw[hdl] at hd;refine o6 hpf (cpn ph' (by rw[hdl];exact hd)) ?_ h2 (by unfold xH at h3 ⊢;rw[qE4 hd];exact h3);unfold xH at h3;unfold zK at h1 ⊢;rw[hop] at h1 ⊢;simp only at h1 ⊢;split at h1
  ·rename_i g as ht;rw[qED hop ht] at h3 hd;unfold rP at h1 ⊢;split at h1
   ·rename_i ys p1 hz;obtain⟨p',hp'⟩:=qAK (qV1 h3) hz ph' hd;rw[hp'];simp only;split at h1
    ·rename_i r hr
     cases hcc:(vG r||as.all qL3) with
     | true=>rw[hcc] at h1;cases h1;rfl
     | false=>rw[hcc] at h1;cases h1
    ·cases h1
   ·cases h1
  ·cases h1
 ·have hcv:kF o=false:=by
   unfold kF;split
   ·rename_i f args ts hop;exact absurd ⟨f,args,ts,hop⟩ hc
   ·rfl
  have go:(∀ (k':Nat) (ph':PHp),(∀ l∈dlC o env,qA l ph'=qA l ph)->zK P tab k' o env ph'=.ok v ph')->∀ (k':Nat) (ph':PHp),(∀ l∈dlC o env,qA l ph'=qA l ph)->yX P tab k' o env ph'=.ok v ph':=fun g k' ph' hd=>o6 hpf (qGL hc _ _) (g k' ph' hd) h2 (by unfold xH;rw[qFF hc];rfl)
  rw[ho,hcv,zR3,zSC,zPN] at h2;obtain⟨e1,e2⟩:=oD h2;obtain⟨d1,d2⟩:=qPQ e1 e2 h1;subst d1;refine⟨rfl,go ?_⟩;intro k' ph' hd;unfold dlC at hd;split at hd
  ·rename_i x hop;have h1:=wV ((yZ hc _ _ _).symm.trans h1);rw[yZ hc];unfold rA at h1 ⊢;rw[hop] at h1 ⊢;cases h1;rfl
  ·rename_i x hop;have h1:=wV ((yZ hc _ _ _).symm.trans h1);rw[yZ hc];unfold rA at h1 ⊢;rw[hop] at h1 ⊢;cases h1;rfl
  ·rename_i f args ts hop;exact absurd ⟨f,args,ts,hop⟩ hc
  ·exact d2 k' ph' hd
theorem qVK {o:Oper}(ho:okE o=true)(k:Nat)(env:List PV)(ph:PHp):zK P tab k o env ph=peO (rA P o env k ph):=yZ (fun ⟨f,args,ts,h⟩=>by
 unfold okE at ho;rw[h] at ho
 cases ho) k env ph
noncomputable def bH (R:List Nat)(ph:PHp):PHp:=R.filterMap fun l=>(qA l ph).map fun ob=>(l,ob)
noncomputable def q9J (b:Array Nat)(ph0:PHp)(zFH:List PV)(E F:List (Nat×List Nat))(N:List (Nat×Nat))(V:List (Nat×PV))(O:List (Nat×PHp)):Bool :=
 (E.all fun e=>(E++F).all fun f=>Nat.beq e.1 f.1||(qO5 b e.1 f.1||f.2.all fun l=>!e.2.contains l)) &&
   N.all fun n=>zY n.2 zFH&&(aD n.2 ph0&&((V.all fun v=>Nat.beq v.1 n.1||(vQ b n.1 v.1||noK n.2 v.2))&&O.all fun c=>Nat.beq c.1 n.1||(vQ b n.1 c.1||aD n.2 c.2)))
noncomputable def qLO (P:Program)(tab:u6)(nm:Nm)(ds:List (Option Tmp))(b:Array Nat)(zFH:List PV)(ph0:PHp):Nat->List Oper->List PV->PHp->List (Nat×List Nat)->List (Nat×List Nat)->List (Nat×Nat)->List (Nat×PV)->List (Nat×PHp)->PT
 | i,[],env,ph,E,F,N,V,O=>.chk (q9J b ph0 zFH E F N V O) (.ret env ph)
 | i,o::l,env,ph,E,F,N,V,O=>vK (vO ds o env)
    (match yX P tab (qH nm o.dst) o env ph with
     | .ok v ph'=>qBG (ndF o env) (inP nm (qH nm o.dst)) (qLO P tab nm ds b zFH ph0 (i+1) l (yO env o.dst v) ph' (cond (okF o env) ((i,RF o (qH nm o.dst) env)::E) E) (cond (okF o env) F ((i,dlC o env)::F)) (cond (ndF o env) ((i,qH nm o.dst)::N) N) ((i,v)::V) (cond (okF o env) ((i,bH (RF o (qH nm o.dst) env) ph')::O) O))
     | _=>.fail)
    (qLO P tab nm ds b zFH ph0 (i+1) l (yO env o.dst (.tup [])) ph E F N ((i,.tup [])::V) O) .fail
structure TrC (P:Program) (tab:u6) (nm:Nm) (ds:List (Option Tmp)) (ops:List Oper) (zFH:List PV) (ph0:PHp) (En:Nat->List PV) (Hs:Nat->PHp) (V:Nat->PV) (j:Nat) (E F:List (Nat×List Nat)) (N:List (Nat×Nat)) (W:List (Nat×PV)) (O:List (Nat×PHp)):Prop where
 e0:En 0=zFH
 h0:Hs 0=ph0
 step:∀ i o,ops[i]?=some o->En (i+1)=yO (En i) o.dst (V i)∧(j+i,V i)∈W ∧
  ((vO ds o (En i)=some true∧yX P tab (qH nm o.dst) o (En i) (Hs i)=.ok (V i) (Hs (i+1))∧(ndF o (En i)=true->inP nm (qH nm o.dst)=true∧(j+i,qH nm o.dst)∈N) ∧
     (okF o (En i)=true->(j+i,RF o (qH nm o.dst) (En i))∈E∧(j+i,bH (RF o (qH nm o.dst) (En i)) (Hs (i+1)))∈O)∧(okF o (En i)=false->(j+i,dlC o (En i))∈F)) ∨
    (vO ds o (En i)=some false∧V i=.tup []∧Hs (i+1)=Hs i))
theorem qBC {Q:List PV->PHp->Prop}{ds:List (Option Tmp)}{b:Array Nat}{zFH:List PV}{ph0:PHp}:∀ (l:List Oper) (j:Nat) (env:List PV) (ph:PHp) (E F:List (Nat×List Nat)) (N:List (Nat×Nat)) (W:List (Nat×PV)) (O:List (Nat×PHp)),
 (qLO P tab nm ds b zFH ph0 j l env ph E F N W O).holds P G Q->∃ En Hs V E' F' N' W' O',TrC P tab nm ds l env ph En Hs V j E' F' N' W' O'∧(∀ x∈E,x∈E')∧(∀ x∈F,x∈F')∧(∀ x∈N,x∈N')∧(∀ x∈W,x∈W')∧(∀ x∈O,x∈O')∧q9J b ph0 zFH E' F' N' W' O'=true∧Q (En l.length) (Hs l.length)
 | [],j,env,ph,E,F,N,W,O,h=>⟨fun _=>env,fun _=>ph,fun _=>.unk,E,F,N,W,O,⟨rfl,rfl,fun i o h=>by simp at h⟩,fun _ h=>h,fun _ h=>h,fun _ h=>h,fun _ h=>h,fun _ h=>h,h.1,h.2⟩
 | o::l,j,env,ph,E,F,N,W,O,h=>by
   unfold qLO vK at h;split at h
   ·rename_i hw;split at h
    ·rename_i v ph' hx
     have hh:(ndF o env=true->inP nm (qH nm o.dst)=true)∧(qLO P tab nm ds b zFH ph0 (j+1) l (yO env o.dst v) ph' (cond (okF o env) ((j,RF o (qH nm o.dst) env)::E) E) (cond (okF o env) F ((j,dlC o env)::F)) (cond (ndF o env) ((j,qH nm o.dst)::N) N) ((j,v)::W) (cond (okF o env) ((j,bH (RF o (qH nm o.dst) env) ph')::O) O)).holds P G Q:=by
      unfold qBG at h
      cases hn:ndF o env with
      | true=>rw[hn] at h;exact⟨fun _=>h.1,h.2⟩
      | false=>rw[hn] at h;exact⟨fun h=>by (cases h),h⟩
     obtain⟨hc,h⟩:=hh;obtain⟨En,Hs,V,E',F',N',W',O',t,a1,a2,a3,a4,a7,a5,a6⟩:=qBC l (j+1) _ _ _ _ _ _ _ h;refine⟨fun i=>Nat.casesOn i env fun i=>En i,fun i=>Nat.casesOn i ph fun i=>Hs i,fun i=>Nat.casesOn i v fun i=>V i,E',F',N',W',O',⟨rfl,rfl,fun i p hi=>?_⟩,fun x hx=>a1 x ?_,fun x hx=>a2 x ?_,fun x hx=>a3 x ?_,fun x hx=>a4 x (zO0 _ hx),fun x hx=>a7 x ?_,a5,a6⟩
     ·cases i with
      | zero =>
        simp only[zPP,zO1] at hi;subst hi;have e0:Hs 0=ph':=t.h0;have hx0:yX P tab (qH nm o.dst) o env ph=.ok v (Hs 0):=by rw[e0];exact hx
        refine⟨t.e0,a4 _ zO3,.inl ⟨hw,hx0,fun hn=>?_,fun he=>?_,fun he=>?_⟩⟩
        ·have hn:ndF o env=true:=hn;exact⟨hc hn,a3 _ (by rw[hn];exact zO3)⟩
        ·have he:okF o env=true:=he;refine⟨a1 _ (by rw[he];exact zO3),a7 _ ?_⟩;show (j,bH (RF o (qH nm o.dst) env) (Hs 0))∈_;rw[he,e0];exact zO3
        ·have he:okF o env=false:=he;exact a2 _ (by rw[he];exact zO3)
      | succ i =>
        have:=t.step i p (by simpa using hi);rw[show j+1+i=j+(i+1) by omega] at this;exact this
     ·cases okF o env
      ·exact hx
      ·exact zO0 _ hx
     ·cases okF o env
      ·exact zO0 _ hx
      ·exact hx
     ·cases ndF o env
      ·exact hx
      ·exact zO0 _ hx
     ·cases okF o env
      ·exact hx
      ·exact zO0 _ hx
    ·exact h.elim
   ·rename_i hw;obtain⟨En,Hs,V,E',F',N',W',O',t,a1,a2,a3,a4,a7,a5,a6⟩:=qBC l (j+1) _ _ _ _ _ _ _ h;refine⟨fun i=>Nat.casesOn i env fun i=>En i,fun i=>Nat.casesOn i ph fun i=>Hs i,fun i=>Nat.casesOn i (.tup []) fun i=>V i,E',F',N',W',O',⟨rfl,rfl,fun i p hi=>?_⟩,a1,a2,a3,fun x hx=>a4 x (zO0 _ hx),a7,a5,a6⟩
    cases i with
    | zero =>
      simp only[zPP,zO1] at hi;subst hi;exact⟨t.e0,a4 _ zO3,.inr ⟨hw,rfl,t.h0⟩⟩
    | succ i =>
      have:=t.step i p (by simpa using hi);rw[show j+1+i=j+(i+1) by omega] at this;exact this
   ·exact h.elim
def nA (ops:Array Oper):Bool :=
 let b:=Region.before ops
 let l:=ops.toList.zipIdx
 l.all fun (o,i) =>
  (o.after.all fun e=>!Region.binds .any e||decide (e.on < i)) &&
  l.all fun (p,j)=>decide (i=j)||(match o.dst with
   | some d=>p.dst != some d&&(!((uM ops p).contains d)||cond (qL o) (vQ b i j) (qO5 b i j))
   | none=>true)
theorem q3Q {ops:Array Oper}(h:nA ops=true):zG8 ops:=by
 unfold nA at h;simp only[zOW] at h
 have h1:∀ i o,ops[i]?=some o->∀ e∈o.after,Region.binds .any e=true->e.on < i:=by
  intro i o ho e he hb;have:=h (o,i) (bM.2 (by simpa using ho));simp only[zOT,zRA] at this;have:=this.1 e he;rw[hb] at this;simpa using this
 have h2:∀ (i j:Nat) (o p:Oper),i≠j->ops[i]?=some o->ops[j]?=some p ->
  (match o.dst with
    | some d=>p.dst != some d&&(!((uM ops p).contains d)||cond (qL o) (vQ (Region.before ops) i j) (qO5 (Region.before ops) i j))
    | none=>true)=true:=by
  intro i j o p hij ho hp;have h3:=h (o,i) (bM.2 (by simpa using ho));simp only[zOT,zOW] at h3;have h4:=h3.2 (p,j) (bM.2 (by simpa using hp));simp only[hij,decide_false,zR3] at h4;exact h4
 refine⟨h1,?_,?_⟩
 ·intro i j o p d hij ho hp hd;have:=h2 i j o p hij ho hp;rw[hd] at this;simp only[zOT,bne_iff_ne,ne_eq] at this;exact this.1
 ·intro i j o p d hij ho hp hd hr;have:=h2 i j o p hij ho hp;rw[hd] at this;simp only[zOT] at this;have:=this.2;have hc:(uM ops p).contains d=true:=List.contains_iff_mem.2 hr;rw[hc] at this;simp only[zSV,zR3] at this
  cases ha:qL o with
  | true=>rw[ha] at this;exact .inl this
  | false =>
    rw[ha] at this;simp only[cond_false,qO5,zPZ] at this;rcases this with h | h
    ·exact .inl h
    ·exact .inr ⟨rfl,h⟩
open Classical in
noncomputable def lst (S:Array Bool)(Wt:Nat->List Nat)(l:Nat):Nat->Nat
 | 0=>0
 | n+1=>if sel S n∧l∈Wt n then n+1 else lst S Wt l n
theorem qCC {S:Array Bool}{Wt:Nat->List Nat}{l:Nat}:∀ (n:Nat),lst S Wt l n=0∨∃ i,i < n∧lst S Wt l n=i+1∧sel S i∧l∈Wt i
 | 0=>.inl rfl
 | n+1=>by
   unfold lst;by_cases h:sel S n∧l∈Wt n
   ·rw[if_pos h];exact .inr ⟨n,zPR _,rfl,h⟩
   ·rw[if_neg h]
    rcases qCC (S:=S) (Wt:=Wt) (l:=l) n with h | ⟨i,h1,h2⟩
    ·exact .inl h
    ·exact .inr ⟨i,zQK h1,h2⟩
theorem qJM {S S':Array Bool}{Wt:Nat->List Nat}{l:Nat}:∀ (n:Nat),(∀ i,i < n->l∈Wt i->(sel S i ↔ sel S' i))->lst S Wt l n=lst S' Wt l n
 | 0,_=>rfl
 | n+1,h=>by
   unfold lst;have ih:=qJM n fun i hi=>h i (by omega)
   by_cases hl:l∈Wt n
   ·have:=h n (by omega) hl;by_cases hs:sel S n
    ·rw[if_pos ⟨hs,hl⟩,if_pos ⟨this.1 hs,hl⟩]
    ·rw[if_neg (fun q=>hs q.1),if_neg (fun q=>hs (this.2 q.1)),ih]
   ·rw[if_neg (fun q=>hl q.2),if_neg (fun q=>hl q.2),ih]
theorem sG {S:Array Bool}{Wt:Nat->List Nat}{Hs:Nat->PHp}{l j:Nat}:∀ (n:Nat),(∀ i,i < n->l ∉ Wt i->qA l (Hs (i+1))=qA l (Hs i))->(∀ i,i < n->l∈Wt i->(sel S i ↔ i < j))->qA l (Hs (lst S Wt l n))=qA l (Hs (min n j))
 | 0,_,_=>by rw[Nat.zero_min];rfl
 | n+1,h1,h2=>by
   have ih:=sG n (fun i hi=>h1 i (by omega)) fun i hi=>h2 i (by omega)
   unfold lst;by_cases h:sel S n∧l∈Wt n
   ·rw[if_pos h];have:=(h2 n (by omega) h.2).1 h.1;rw[zQN (by omega)]
   ·rw[if_neg h,ih];by_cases hj:n < j
    ·have hl:l ∉ Wt n:=fun hl=>h ⟨(h2 n (by omega) hl).2 hj,hl⟩
     rw[zQN (by omega),zQN (by omega),h1 n (by omega) hl]
    ·rw[zSB (by omega),zSB (by omega)]
theorem qAU {g:Nat->Option PO}{l:Nat}:∀ (L:PHp),qA l (L.filterMap fun p=>(g p.1).map fun o=>(p.1,o))=if (qA l L).isSome then g l else none
 | []=>rfl
 | (k,o)::L=>by
   rw[zTE];by_cases e:l=k
   ·subst e;rw[show qA l ((l,o)::L)=some o by simp[qA]];simp only[zR5,if_true]
    cases hg:g l with
    | none =>
      simp only[zTA];rw[qAU L,hg];split <;> rfl
    | some q=>simp[qA]
   ·rw[yD e]
    cases hg:g k with
    | none=>simp only[zTA];exact qAU L
    | some q=>simp only[zO7];rw[yD e];exact qAU L
theorem qUH {k:Nat}:∀ {L:PHp},(∀ p∈L,zY k p.2.cs=true)->aD k L=true
 | [],_=>rfl
 | (i,o)::L,h=>by
   simp only[aD,zOT];exact⟨h (i,o) zO3,qUH fun p hp=>h p (zO0 _ hp)⟩
theorem qRJ {k:Nat}:∀ {L:PHp} {p:Nat×PO},aD k L=true->p∈L->zY k p.2.cs=true
 | (i,o)::L,p,h,hp=>by
   simp only[aD,zOT] at h;rcases zPE.1 hp with rfl | hp
   ·exact h.1
   ·exact qRJ h.2 hp
theorem qCN {m:Nat->Nat}{a b:PHp}(h:∀ l,qA l a=qA l b):own m a=own m b:=funext fun l=>by unfold own;rw[h]
end Go.Idl
