/- Code beside the objects of others. Conditions: none. -/
import Derived.Test.YtpnecffgnjijjaaGreatDoorPur18
set_option linter.all false
namespace Go.Idl
variable [Gc]
variable {P:Program}{G:Nat->Bool}{nat:xA}{tab:uQ}{inl:FuncId->Bool}{nm:Nm}{rd:Bool}{good:FuncId->Bool}{Γ:Type}
structure Wld (Γ:Type) where
 W:Γ->(Nat->Prop)->IH->(Nat->Prop)->Prop
 lt:∀ {g Z H D},W g Z H D->∀ b,D b->b < H.size
 nz:∀ {g Z H D},W g Z H D->∀ b,D b->¬ Z b
 keep:∀ {g Z H D Z' H'},W g Z H D->(∀ b,Z b->Z' b)->(∀ b,Z' b->b < H'.size)->H.size<=H'.size->H'.base=H.base->(∀ b,b < H.size->(D b∨Z b)->H'.get b=H.get b)->(∀ b,D b->¬ Z' b)->W g Z' H' D
def zAI:Wld Unit:=⟨fun _ _ _ D=>∀ b,¬ D b,fun h b hb=>absurd hb (h b),fun h b hb=>absurd hb (h b),fun h _ _ _ _ _ _=>h⟩
structure StD (Z:Nat->Prop) (H:IH) (M:Nat->Option (Nat×PO)) (D:Nat->Prop) (Z':Nat->Prop) (H':IH) (M':Nat->Option (Nat×PO)) (D':Nat->Prop):Prop where
 size:H.size<=H'.size
 base:H'.base=H.base
 zle:∀ b,Z b->Z' b
 keep:∀ b,b < H.size->¬ bV M b->¬ D b->H'.get b=H.get b
 zGD:∀ b,Z' b->b < H.size->Z b∨bV M b∨D b
 onew:∀ b,bV M' b->b < H.size->bV M b
 zGR:∀ b,D' b->b < H.size->D b
section
variable {Z Z' Z2:Nat->Prop}{H H' H2:IH}{M M' M2:Nat->Option (Nat×PO)}{D D' D2:Nat->Prop}
theorem StD.of (s:Step Z H M Z' H' M'):StD Z H M D Z' H' M' D :=
 ⟨s.size,s.base,s.zle,fun b h1 h2 _=>s.keep b h1 h2,fun b h1 h2=>(s.zGD b h1 h2).elim .inl fun h=>.inr (.inl h),s.onew,fun b h _=>h⟩
theorem StD.refl:StD Z H M D Z H M D:=.of (.refl _ _ _)
theorem StD.trans (a:StD Z H M D Z' H' M' D')(b:StD Z' H' M' D' Z2 H2 M2 D2):StD Z H M D Z2 H2 M2 D2:=by
 refine⟨zNP a.size b.size,b.base.trans a.base,fun x h=>b.zle x (a.zle x h),fun x h1 h2 h3=>?_,fun x h1 h2=>?_,fun x h1 h2=>a.onew x (b.onew x h1 (zM4 h2 a.size)) h2,fun x h1 h2=>a.zGR x (b.zGR x h1 (zM4 h2 a.size)) h2⟩
 ·exact (b.keep x (zM4 h1 a.size) (fun h=>h2 (a.onew x h h1)) fun h=>h3 (a.zGR x h h1)).trans (a.keep x h1 h2 h3)
 ·rcases b.zGD x h1 (zM4 h2 a.size) with h | h | h
  ·exact a.zGD x h h2
  ·exact .inr (.inl (a.onew x h h2))
  ·exact .inr (.inr (a.zGR x h h2))
end
abbrev StW (Z:Nat->Prop)(H:IH)(D:Nat->Prop)(Z':Nat->Prop)(H':IH)(D':Nat->Prop):Prop:=StD Z H (fun _=>none) D Z' H' (fun _=>none) D'
theorem qIZ (b:Nat):¬ bV (fun _=>none) b:=fun ⟨k,ob,hk,_⟩=>by cases hk
structure St (P:Program) (w:Wld Γ) (g:Γ) (env:List PV) (ph:PHp) (Z:Nat->Prop) (H:IH) (m:Nat->Nat) (zFA:Env) (D:Nat->Prop):Prop where
 hp:Hp P Z H (own m ph)
 vrl:VRL P Z H (own m ph) env zFA
 wd:w.W g Z H D
 dis:∀ b,D b->¬ bV (own m ph) b
section
variable {w:Wld Γ}{g:Γ}{env env':List PV}{ph ph':PHp}{Z Z':Nat->Prop}{H H':IH}{m m':Nat->Nat}{zFA zFZ:Env}{D D':Nat->Prop}
theorem St.step (a:St P w g env ph Z H m zFA D)(hp:Hp P Z' H' (own m' ph'))(hv:VRL P Z' H' (own m' ph') env' zFZ)(s:Step Z H (own m ph) Z' H' (own m' ph')):St P w g env' ph' Z' H' m' zFZ D:=by
 have hlt:=w.lt a.wd;refine⟨hp,hv,w.keep a.wd s.zle hp.zlt s.size s.base (fun b hb h=>?_) (fun b hd hz=>?_),fun b hd ho=>a.dis b hd (s.onew b ho (hlt b hd))⟩
 ·rcases h with h | h
  ·exact s.keep b hb (a.dis b h)
  ·exact a.hp.zGZ s b h hb
 ·rcases s.zGD b hz (hlt b hd) with h | h
  ·exact w.nz a.wd b hd h
  ·exact a.dis b hd h
theorem St.zGZ (a:St P w g env ph Z H m zFA D)(s:StW Z H D Z' H' D'):∀ b,Z b->b < H.size->H'.get b=H.get b:=fun b hz hb=>s.keep b hb (qIZ b) fun hd=>w.nz a.wd b hd hz
theorem St.hpW (a:St P w g env ph Z H m zFA D)(s:StW Z H D Z' H' D')(hz:∀ b,Z' b->b < H'.size):Hp P Z' H' (own m ph):=by
 refine⟨hz,fun k b ob hk=>?_,a.hp.inj,a.hp.gl.mono a.hp.zlt s.zle (a.zGZ s)⟩
 rcases a.hp.obj k b ob hk with h1 | ⟨a1,a2,a3,a4⟩
 ·exact .inl h1
 ·by_cases hr:ob.gr=true∧ob.cs=[]
  ·exact .inl hr
  ·have ho:bV (own m ph) b:=⟨k,ob,hk,hr⟩
   have hnd:¬ D b:=fun hd=>a.dis b hd ho
   refine .inr ⟨zM4 a1 s.size,by rw[s.base];exact a2,fun h=>?_,a4.mono (s.keep b a1 (qIZ b) hnd) fun _ a5=>a5.mono (p:=fun _=>false) s.zle s.size (a.zGZ s) (.refl _ _) (fun j hj=>by cases hj)⟩;rcases s.zGD b h a1 with h | h | h
   ·exact a3 h
   ·exact qIZ b h
   ·exact hnd h
theorem St.zLY (a:St P w g env ph Z H m zFA D)(s:StW Z H D Z' H' D'){xs:List PV}{vs:List Value}(h:VRL P Z H (own m ph) xs vs):VRL P Z' H' (own m ph) xs vs :=
 h.mono (p:=fun _=>false) s.zle s.size (a.zGZ s) (.refl _ _) fun j hj=>by cases hj
theorem St.world (a:St P w g env ph Z H m zFA D)(s:StW Z H D Z' H' D'){g':Γ}(hz:∀ b,Z' b->b < H'.size)(hw:w.W g' Z' H' D'):St P w g' env ph Z' H' m zFA D'∧StD Z H (own m ph) D Z' H' (own m ph) D':=by
 refine⟨⟨a.hpW s hz,a.zLY s a.vrl,hw,fun b hd ho=>?_⟩,⟨s.size,s.base,s.zle,fun b h1 _ h3=>s.keep b h1 (qIZ b) h3,fun b h1 h2=>?_,fun b h _=>h,s.zGR⟩⟩
 ·obtain⟨k,ob,hk,hr⟩:=ho
  rcases a.hp.obj k b ob hk with h1 | ⟨a1,_⟩
  ·exact hr h1
  ·exact a.dis b (s.zGR b hd a1) ⟨k,ob,hk,hr⟩
 ·rcases s.zGD b h1 h2 with h | h | h
  ·exact .inl h
  ·exact absurd h (qIZ b)
  ·exact .inr (.inr h)
end
theorem aW {Z:Nat->Prop}{H:IH}{M:Nat->Option (Nat×PO)}(h:Hp P Z H M){b:Nat}(ho:bV M b):b < H.size∧¬ Z b:=by
 obtain⟨k,ob,hk,hr⟩:=ho
 rcases h.obj k b ob hk with h1 | ⟨a1,a2,a3,_⟩
 ·exact absurd h1 hr
 ·exact⟨a1,a3⟩
theorem St.other {w:Wld Γ}{g:Γ}{env:List PV}{ph:PHp}{Z Z':Nat->Prop}{H H':IH}{m:Nat->Nat}{zFA:Env}{D:Nat->Prop}(a:St P w g env ph Z H m zFA D)(hz:∀ b,Z b->Z' b)(hl:∀ b,Z' b->b < H'.size)(hs:H.size<=H'.size)(hb:H'.base=H.base)
 (hg:∀ b,b < H.size->bV (own m ph) b∨D b∨Z b->H'.get b=H.get b) (hn:∀ b,bV (own m ph) b∨D b->¬ Z' b):St P w g env ph Z' H' m zFA D:=by
 have hzk:∀ b,Z b->b < H.size->H'.get b=H.get b:=fun b h1 h2=>hg b h2 (.inr (.inr h1))
 have mv:∀ {xs:List PV} {vs:List Value},VRL P Z H (own m ph) xs vs->VRL P Z' H' (own m ph) xs vs:=fun h=>h.mono (p:=fun _=>false) hz hs hzk (.refl _ _) fun j hj=>by cases hj
 refine⟨⟨hl,fun k b ob hk=>?_,a.hp.inj,a.hp.gl.mono a.hp.zlt hz hzk⟩,mv a.vrl,w.keep a.wd hz hl hs hb (fun b h1 h2=>hg b h1 (.inr h2)) (fun b h=>hn b (.inr h)),a.dis⟩
 rcases a.hp.obj k b ob hk with h1 | ⟨a1,a2,a3,a4⟩
 ·exact .inl h1
 ·by_cases hr:ob.gr=true∧ob.cs=[]
  ·exact .inl hr
  ·have ho:bV (own m ph) b:=⟨k,ob,hk,hr⟩
   exact .inr ⟨zM4 a1 hs,by rw[hb];exact a2,hn b (.inl ho),a4.mono (hg b a1 (.inl ho)) fun _ a5=>mv a5⟩
theorem KR.none {p:Nat->Bool}{M:Nat->Option (Nat×PO)}{m:Nat->Nat}{ph:PHp}(h:KR p M (own m ph))(hn:∀ k o,qA k ph=some o->p k=false):KR (fun _=>false) M (own m ph):=fun k b ob hk=>by
 rcases h k b ob hk with q | q | q
 ·exact .inl q
 ·exact .inr (.inl q)
 ·obtain⟨hl,_⟩:=vL hk;rw[hn k ob hl] at q;cases q
abbrev YQ (Γ:Type):=zGB->Γ->List PV->PHp->Prop
def qQ (P:Program)(G:Nat->Bool)(rd:Bool)(nm:Nm)(w:Wld Γ)(c:Code)(g:Γ)(env:List PV)(ph:PHp)(Q:YQ Γ):Prop :=
 ∀ (Z:Nat->Prop) (H:IH) (m:Nat->Nat) (zFA:Env) (D:Nat->Prop),St P w g env ph Z H m zFA D->H.base<=H.size ->
  Holds P G rd c zFA H fun o=>∃ Z' m' env' ph' g' D',St P w g' env' ph' Z' o.H m' o.env D'∧StD Z H (own m ph) D Z' o.H (own m' ph') D'∧KR (inP nm) (own m ph) (own m' ph')∧Q o.e g' env' ph'
section
variable {w:Wld Γ}{g:Γ}{env:List PV}{ph:PHp}
theorem qQ.mono {c:Code}{Q Q':YQ Γ}(h:qQ P G rd nm w c g env ph Q)(hq:∀ e g env ph,Q e g env ph->Q' e g env ph):qQ P G rd nm w c g env ph Q' :=
 fun Z H m zFA D a hb=>(h Z H m zFA D a hb).mono fun o ⟨Z',m',env',ph',g',D',a,b,c,d⟩=>⟨Z',m',env',ph',g',D',a,b,c,hq _ _ _ _ d⟩
theorem qQ.of {c:Code}{Q:PQ}(h:Runs P G rd nm c env ph Q):qQ P G rd nm w c g env ph fun e g' pe p=>g'=g∧Q e pe p:=by
 intro Z H m zFA D a hb;refine (h Z H m zFA a.hp hb a.vrl).mono ?_;rintro o ⟨Z',m',env',ph',b1,b2,b3,b4,b5⟩;exact⟨Z',m',env',ph',g,D,a.step b1 b2 b3,.of b3,b4,rfl,b5⟩
theorem qQ.runs {c:Code}{Q:YQ Unit}(h:qQ P G rd nm zAI c () env ph Q):Runs P G rd nm c env ph fun e pe p=>Q e () pe p:=by
 intro Z H m zFA hp hb he;refine (h Z H m zFA (fun _=>False) ⟨hp,he,fun _ h=>h,fun _ h=>h.elim⟩ hb).mono ?_;rintro o ⟨Z',m',env',ph',g',D',a,b,c,d⟩
 exact⟨Z',m',env',ph',a.hp,a.vrl,⟨b.size,b.base,b.zle,fun x h1 h2=>b.keep x h1 h2 (fun h=>h),fun x h1 h2=>by
  rcases b.zGD x h1 h2 with h | h | h
  ·exact .inl h
  ·exact .inr h
  ·exact h.elim,b.onew⟩,c,d⟩
theorem qQ.pre' {c:Code} {zFG:List PV} {ph1:PHp} {Q:YQ Γ} (hw:∀ (Z:Nat->Prop) (H:IH) (m:Nat->Nat) (vs:List Value),Hp P Z H (own m ph)->VRL P Z H (own m ph) env vs ->
 ∃ Z' m',Hp P Z' H (own m' ph1)∧VRL P Z' H (own m' ph1) zFG vs∧Step Z H (own m ph) Z' H (own m' ph1)∧KR (inP nm) (own m ph) (own m' ph1)) (h:qQ P G rd nm w c g zFG ph1 Q):qQ P G rd nm w c g env ph Q:=by
 intro Z H m zFA D a hb;obtain⟨Z1,m1,a1,a2,a3,a4⟩:=hw Z H m zFA a.hp a.vrl;refine (h Z1 H m1 zFA D (a.step a1 a2 a3) hb).mono ?_;rintro o ⟨Z',m',env',ph',g',D',a,b,c,d⟩;exact⟨Z',m',env',ph',g',D',a,(StD.of a3).trans b,a4.trans c,d⟩
theorem qQ.post {c:Code} {Q:YQ Γ} (h:qQ P G rd nm w c g env ph fun e g pe p=>∃ pe' p',(∀ (Z:Nat->Prop) (H:IH) (m:Nat->Nat) (vs:List Value),Hp P Z H (own m p)->VRL P Z H (own m p) pe vs ->
 ∃ Z' m',Hp P Z' H (own m' p')∧VRL P Z' H (own m' p') pe' vs∧Step Z H (own m p) Z' H (own m' p')∧KR (inP nm) (own m p) (own m' p'))∧Q e g pe' p'):qQ P G rd nm w c g env ph Q:=by
 intro Z H m zFA D a hb;refine (h Z H m zFA D a hb).mono ?_;rintro o ⟨Z',m',env',ph',g',D',a,b,c,pe',p',hw,d⟩;obtain⟨Z1,m1,a1,a2,a3,a4⟩:=hw Z' o.H m' o.env a.hp a.vrl;exact⟨Z1,m1,pe',p',g',D',a.step a1 a2 a3,b.trans (.of a3),c.trans a4,d⟩
def SQY (P:Program)(G:Nat->Bool)(rd:Bool)(nm:Nm)(w:Wld Γ)(y:Code)(Q:YQ Γ):YQ Γ:=fun e g env ph=>match e with
 | .normal=>qQ P G rd nm w y g env ph Q
 | e=>Q e g env ph
theorem qQ.seq {x y:Code}{Q:YQ Γ}(h:qQ P G rd nm w x g env ph (SQY P G rd nm w y Q)):qQ P G rd nm w (.seq x y) g env ph Q:=by
 intro Z H m zFA D a hb;refine .zLQ (h Z H m zFA D a hb) ?_ ?_
 ·rintro o ⟨Z',m',env',ph',g',D',a,b,c,d⟩ hn;rw[hn] at d;refine (d Z' o.H m' o.env D' a (by rw[b.base];exact zNP hb b.size)).mono ?_;rintro o2 ⟨Z2,m2,zFS,ph2,g2,D2,a2,b2,c2,d2⟩;exact⟨Z2,m2,zFS,ph2,g2,D2,a2,b.trans b2,c.trans c2,d2⟩
 ·rintro o ⟨Z',m',env',ph',g',D',a,b,c,d⟩ hn;refine⟨Z',m',env',ph',g',D',a,b,c,?_⟩
  cases ho:o.e with
  | normal=>exact absurd ho hn
  | exit id=>rw[ho] at d;exact d
  | goto l=>rw[ho] at d;exact d
  | ret=>rw[ho] at d;exact d
theorem qQ.cond {v:Operand}{x y:Code}{Q:YQ Γ}{t:Bool}(hok:kR G v=true)(hv:qJ env v=fvv (.bool t))(hx:t=true->qQ P G rd nm w x g env ph Q)(hy:t=false->qQ P G rd nm w y g env ph Q):qQ P G rd nm w (.cond v x y) g env ph Q:=by
 intro Z H m zFA D a hb;have hr:=qK a.vrl v;rw[hv] at hr;exact .cond hok (yK hr rfl) (fun ht=>hx ht Z H m zFA D a hb) (fun ht=>hy ht Z H m zFA D a hb)
theorem qQ.zKY {v:Operand}{x y:Code}{Q:YQ Γ}(hok:kR G v=true)(hv:qJ env v=.bq)(hx:qQ P G rd nm w x g env ph Q)(hy:qQ P G rd nm w y g env ph Q):qQ P G rd nm w (.cond v x y) g env ph Q:=by
 intro Z H m zFA D a hb;have hr:=qK a.vrl v;rw[hv] at hr
 obtain⟨t,ht⟩:∃ t,zFA.val v=.bool t:=by
  generalize zFA.val v=u at hr;cases hr;exact⟨_,rfl⟩
 exact .cond hok ht (fun _=>hx Z H m zFA D a hb) (fun _=>hy Z H m zFA D a hb)
theorem qQ.skip {Q:YQ Γ}(h:Q .normal g env ph):qQ P G rd nm w .skip g env ph Q :=
 fun Z H m zFA D a hb=>.skip ⟨Z,m,env,ph,g,D,a,.refl,.refl _ _,h⟩
theorem qQ.label {l:Nat}{Q:YQ Γ}(h:Q .normal g env ph):qQ P G rd nm w (.label l) g env ph Q :=
 fun Z H m zFA D a hb=>.label ⟨Z,m,env,ph,g,D,a,.refl,.refl _ _,h⟩
theorem qQ.ret {Q:YQ Γ}(h:Q .ret g env ph):qQ P G rd nm w .ret g env ph Q :=
 fun Z H m zFA D a hb=>.ret ⟨Z,m,env,ph,g,D,a,.refl,.refl _ _,h⟩
theorem qQ.exit {id:Nat}{Q:YQ Γ}(h:Q (.exit id) g env ph):qQ P G rd nm w (.exit id) g env ph Q :=
 fun Z H m zFA D a hb=>.exit ⟨Z,m,env,ph,g,D,a,.refl,.refl _ _,h⟩
def BQY (id:Nat)(Q:YQ Γ):YQ Γ:=fun e g env ph=>match e with
 | .exit i=>if i=id then Q .normal g env ph else Q (.exit i) g env ph
 | e=>Q e g env ph
theorem BQY.go {id:Nat}{Q:YQ Γ}(h:Q .normal g env ph):BQY id Q .normal g env ph:=h
theorem BQY.rt {id:Nat}{Q:YQ Γ}(h:Q .ret g env ph):BQY id Q .ret g env ph:=h
theorem BQY.on {id:Nat}{Q:YQ Γ}(h:Q .normal g env ph):BQY id Q (.exit id) g env ph:=by unfold BQY;simp only[if_true];exact h
theorem BQY.ex {id i:Nat}{Q:YQ Γ}(hne:i≠id)(h:Q (.exit i) g env ph):BQY id Q (.exit i) g env ph:=by unfold BQY;simp only[if_neg hne];exact h
theorem qQ.block {id:Nat}{x:Code}{Q:YQ Γ}(h:qQ P G rd nm w x g env ph (BQY id Q)):qQ P G rd nm w (.block id x) g env ph Q:=by
 intro Z H m zFA D a hb;refine .block ((h Z H m zFA D a hb).mono ?_);rintro o ⟨Z',m',env',ph',g',D',a,b,c,e⟩;unfold qUV;unfold BQY at e
 cases ho:o.e with
 | normal=>rw[ho] at e;simp only;exact⟨Z',m',env',ph',g',D',a,b,c,by rw[ho];exact e⟩
 | goto l=>rw[ho] at e;simp only;exact⟨Z',m',env',ph',g',D',a,b,c,by rw[ho];exact e⟩
 | ret=>rw[ho] at e;simp only;exact⟨Z',m',env',ph',g',D',a,b,c,by rw[ho];exact e⟩
 | exit i =>
   rw[ho] at e;simp only at e ⊢;by_cases hi:i=id
   ·rw[if_pos hi] at e ⊢;exact⟨Z',m',env',ph',g',D',a,b,c,e⟩
   ·rw[if_neg hi] at e ⊢;exact⟨Z',m',env',ph',g',D',a,b,c,by rw[ho];exact e⟩
theorem qQ.scope {x:Code}{Q:YQ Γ}(h:qQ P G rd nm w x g env ph fun e g pe p=>(∀ l,e≠.goto l)∧Q e g pe p):qQ P G rd nm w (.scope x) g env ph Q:=by
 intro Z H m zFA D a hb;refine .scope ((h Z H m zFA D a hb).mono ?_);rintro o ⟨Z',m',env',ph',g',D',a,b,c,e1,e2⟩;exact⟨e1,Z',m',env',ph',g',D',a,b,c,e2⟩
theorem qOQ {p:Nat->Bool}{zFG:List PV}{ph1:PHp}(hw:WkP env zFG)(hs:qBO ph1 ph)(Z:Nat->Prop)(H:IH)(m:Nat->Nat)(vs:List Value)(hp:Hp P Z H (own m ph))(hv:VRL P Z H (own m ph) env vs) :
 Hp P Z H (own m ph1)∧VRL P Z H (own m ph1) zFG vs∧Step Z H (own m ph) Z H (own m ph1)∧KR p (own m ph) (own m ph1):=by
 have hf:=Fz.drop hp hs;exact⟨hf.hp,hw.rel (hf.vrl hv),hf.step,hf.kr _⟩
def RQY {σ ρ:Type}(E:σ->List PV)(Ph:σ->PHp)(Gm:σ->Γ)(id:Nat)(r:ρ)(Q:YQ Γ)(x:σ⊕ρ):YQ Γ:=fun e g env ph=>match x with
 | .inl s'=>e=.normal∧WkP env (E s')∧qBO (Ph s') ph∧g=Gm s'
 | .inr r'=>r'=r->e≠.normal∧BQY id Q e g env ph
theorem qQ.loop {σ ρ:Type}(E:σ->List PV)(Ph:σ->PHp)(Gm:σ->Γ){step:σ->Option (σ⊕ρ)}{s0:σ}{r:ρ}(hr:zG step s0=some r){id:Nat}{x:Code}{Q:YQ Γ}(hw:WkP env (E s0))(hs:qBO (Ph s0) ph)(hg:g=Gm s0)
 (hx:∀ s y,step s=some y->qQ P G rd nm w x (Gm s) (E s) (Ph s) (RQY E Ph Gm id r Q y)):qQ P G rd nm w (.block id (.loop x)) g env ph Q:=by
 obtain⟨n,hn⟩:=bJ hr;subst hg;refine .pre' (fun Z H m vs hp hv=>⟨Z,m,qOQ hw hs Z H m vs hp hv⟩) (.block ?_);intro Z H m zFA D a hb;refine .loop (fun n zG1 H1=>∃ s Z1 m1 D1,vN n step s=some r∧St P w (Gm s) (E s) (Ph s) Z1 H1 m1 zG1 D1∧StD Z H (own m (Ph s0)) D Z1 H1 (own m1 (Ph s)) D1∧KR (inP nm) (own m (Ph s0)) (own m1 (Ph s))) ?_ (n:=n) ⟨s0,Z,m,D,hn,a,.refl,.refl _ _⟩;rintro n1 zG1 H1 ⟨s,Z1,m1,D1,q1,q2,q3,q4⟩
 cases n1 with
 | zero=>cases q1
 | succ n1 =>
   unfold vN at q1
   cases hf:step s with
   | none=>rw[hf] at q1;cases q1
   | some y =>
     rw[hf] at q1;refine (hx s y hf Z1 H1 m1 zG1 D1 q2 (by rw[q3.base];exact zNP hb q3.size)).mono ?_;rintro o ⟨Z2,m2,zFS,ph2,g2,D2,a,b,c,e⟩
     cases y with
     | inl s' =>
       obtain⟨e1,e2,e3,e4⟩:=e;subst e4;rw[e1];simp only;obtain⟨f1,f2,f3,f4⟩:=qOQ (p:=inP nm) e2 e3 Z2 o.H m2 o.env a.hp a.vrl;exact⟨n1,zNV _,s',Z2,m2,D2,q1,a.step f1 f2 f3,(q3.trans b).trans (.of f3),(q4.trans c).trans f4⟩
     | inr r' =>
       simp only[zM7] at q1;subst q1;obtain⟨e1,e2⟩:=e rfl
       cases ho:o.e with
       | normal=>exact absurd ho e1
       | exit i=>simp only;exact⟨Z2,m2,zFS,ph2,g2,D2,a,q3.trans b,q4.trans c,by rw[ho] at e2;exact e2⟩
       | goto l=>simp only;exact⟨Z2,m2,zFS,ph2,g2,D2,a,q3.trans b,q4.trans c,by rw[ho] at e2;exact e2⟩
       | ret=>simp only;exact⟨Z2,m2,zFS,ph2,g2,D2,a,q3.trans b,q4.trans c,by rw[ho] at e2;exact e2⟩
theorem qQ.zJV {id:Nat}{x:Code}{Q:YQ Γ}(I:Nat->Γ->List PV->PHp->Prop)
 (hx:∀ n g env ph,I n g env ph->qQ P G rd nm w x g env ph fun e g' pe p=>match e with
   | .normal=>∃ k,k < n∧I k g' pe p
   | e=>BQY id Q e g' pe p) {n:Nat} (h:I n g env ph):qQ P G rd nm w (.block id (.loop x)) g env ph Q:=by
 refine .block ?_;intro Z H m zFA D a hb;refine .loop (fun n zG1 H1=>∃ g1 zFG ph1 Z1 m1 D1,I n g1 zFG ph1∧St P w g1 zFG ph1 Z1 H1 m1 zG1 D1∧StD Z H (own m ph) D Z1 H1 (own m1 ph1) D1∧KR (inP nm) (own m ph) (own m1 ph1)) ?_ (n:=n) ⟨g,env,ph,Z,m,D,h,a,.refl,.refl _ _⟩;rintro n1 zG1 H1 ⟨g1,zFG,ph1,Z1,m1,D1,q1,q2,q3,q4⟩;refine (hx n1 g1 zFG ph1 q1 Z1 H1 m1 zG1 D1 q2 (by rw[q3.base];exact zNP hb q3.size)).mono ?_;rintro o ⟨Z2,m2,zFS,ph2,g2,D2,a,b,c,e⟩
 cases ho:o.e with
 | normal =>
   rw[ho] at e;obtain⟨k,hk,hi⟩:=e;exact⟨k,hk,g2,zFS,ph2,Z2,m2,D2,hi,a,q3.trans b,q4.trans c⟩
 | exit i=>rw[ho] at e;exact⟨Z2,m2,zFS,ph2,g2,D2,a,q3.trans b,q4.trans c,e⟩
 | goto l=>rw[ho] at e;exact⟨Z2,m2,zFS,ph2,g2,D2,a,q3.trans b,q4.trans c,e⟩
 | ret=>rw[ho] at e;exact⟨Z2,m2,zFS,ph2,g2,D2,a,q3.trans b,q4.trans c,e⟩
end
def qI2 (P:Program)(G:Nat->Bool)(w:Wld Γ)(l:Nat)(g:Γ)(args:List PV)(g':Γ)(b:Bool):Prop :=
 ∀ (Z:Nat->Prop) (H:IH) (D:Nat->Prop) (ivs:List Value),(∀ b,Z b->b < H.size)->H.base<=H.size->w.W g Z H D->VRL P Z H (fun _=>none) args ivs ->
  qAI P G l ivs H fun r=>r.1=.bool b∧∃ Z' D',(∀ b,Z' b->b < r.2.size)∧w.W g' Z' r.2 D'∧StW Z H D Z' r.2 D'
def PT.zF5 (P:Program)(G:Nat->Bool)(w:Wld Γ)(Q:Γ->List PV->PHp->Prop):PT->Γ->Prop
 | .fail,_=>False
 | .ret env ph,g=>Q g env ph
 | .chk c t,g=>c=true∧t.zF5 P G w Q g
 | .call nm f args ph k,g=>∃ R,qDE P G nm f args ph R∧∀ v ph',R v ph'->(k v ph').zF5 P G w Q g
 | .rnd l args ph k,g=>∃ zGF tys ph1 g' b,fzA P args ph=some (zGF,ph1)∧qI2 P G w l g (rtL (rt1 P) tys zGF) g' b∧(k (fvv (.bool b)) ph1).zF5 P G w Q g'
section
variable {w:Wld Γ}
theorem zBX {F:Fence}(hF:aV F){o:Oper}{env:List PV}{zFA:Env}{f:Inj}{a:Act}{wd:World}{l:Nat}{as zGF:List PV}{tys:List TypeId}{ph ph' ph1:PHp}{g g':Γ}{b:Bool}{Z:Nat->Prop}{H:IH}{m:Nat->Nat}{D:Nat->Prop}(hR:Rel P f H wd)(hG:uY G f)(zFI:qE P f zFA a.tmps.toList)
 (hok:o.op.operands.toList.all (kR (qX f))=true) (hs:St P w g env ph Z H m zFA D) (hb:H.base<=H.size) (hx:bF P tab inl (qH nm o.dst) o env ph=.rnd l as ph') (hfz:fzA P as ph'=some (zGF,ph1)) (hc:qI2 P G w l g (rtL (rt1 P) tys zGF) g' b)
 {K:Act->World->Prop} {Qx:Exit->Act->World->Prop}
 (hK:∀ (Z':Nat->Prop) (H':IH) (D':Nat->Prop) (f':Inj) (v':Value) (w':World),St P w g' env ph1 Z' H' m zFA D'->StD Z H (own m ph) D Z' H' (own m ph1) D'->KR (inP nm) (own m ph) (own m ph1) ->
   Rel P f' H' w'->Grow f H wd f' H' w'->zFB P f' (.bool b) v'->K (a.put o.dst v') w'):o.wpIn F 0 P a wd K Qx:=by
 unfold bF at hx;split at hx
 ·rename_i x zFO ts hop;unfold oV at hx;have hpx:=qK hs.vrl x;have ha:=VRL.of hs.vrl zFO.toList;split at hx
  ·rename_i g1 c1 c2 hfv;exfalso
   cases hc:(c1.toList.isEmpty&&c2.toList.isEmpty) with
   | false=>rw[hc] at hx;cases hx
   | true =>
     rw[hc] at hx;have hx:dV P tab inl g1 (zFO.toList.map (qJ env)) ph=.rnd l as ph':=hx;unfold dV at hx
     cases hi:inl g1 with
     | true=>rw[hi] at hx;cases hx
     | false =>
       rw[hi] at hx;have hx:fU P tab g1 (zFO.toList.map (qJ env)) ph=.rnd l as ph':=hx;unfold fU at hx;split at hx
       ·split at hx <;> cases hx
       ·cases hx
  ·rename_i l1 hfv;have hx:PE.rnd l1 (zFO.toList.map (qJ env)) ph=.rnd l as ph':=hx;cases hx;rw[hfv] at hpx
   have hv:zFA.val x=.func (.yield l) #[] #[]:=by
    generalize zFA.val x=u at hpx;cases hpx;rfl
   have hstep:iop P o zFA H=some (.round l (kP zFA.val zFO.toList) H):=by
    unfold iop;rw[hop];exact qRH hv
   rw[xC] at hstep;obtain⟨Z1,c1,r1⟩:=qJE hs.hp ha hfz;have hs1:St P w g env ph1 Z1 H m zFA D:=hs.step c1.hp (c1.vrl hs.vrl) c1.step;have hri:=hc Z1 H D _ c1.hp.zlt hb hs1.wd (qD7 (fun t x v h=>qE3 h) r1);refine vW (run:=qVC (qM0 l (zFO.toList.map zFA.val) H _)) (nat:=fun _=>none) (G:=G) hF ?_ (q1I (qRP hri)) hR hG zFI hok (Q:=fun r=>r.1=.bool b∧∃ Z' D',(∀ b,Z' b->b < r.2.size)∧w.W g' Z' r.2 D'∧StW Z1 H D Z' r.2 D') ?_ ?_
   ·intro g args args' H f w Q hR hG ha h;unfold yJ at h;exact h.elim
   ·unfold rU;rw[hstep];show (qIE (qVC (qM0 l (zFO.toList.map zFA.val) H _)) (fun _=>none) (some (.round l (zFO.toList.map zFA.val) H))).holds _;rw[qS3];intro r hr;exact hr
   ·rintro⟨u,H'⟩ v' w' f' ⟨hu,Z',D',b1,b2,b3⟩ k1 k2 k3;simp only at hu;subst hu;obtain⟨s1,s2⟩:=hs1.world b3 b1 b2;exact hK Z' H' D' f' v' w' s1 ((StD.of c1.step).trans s2) (c1.kr _) k1 k2 k3
  ·rename_i g1 first cap hfv
   exfalso;unfold dV at hx
   cases hi:inl g1 with
   | true=>rw[hi] at hx;cases hx
   | false =>
     rw[hi] at hx;have hx:fU P tab g1 _ ph=.rnd l as ph':=hx;unfold fU at hx;split at hx
     ·split at hx <;> cases hx
     ·cases hx
  ·cases hx
 ·unfold peO at hx;split at hx <;> cases hx
theorem fM {B:Nat}{F:Fence}(hF:aV F)(hns:vI P G nat)(ht:qR8 P nat tab){ops:Array Oper}{Qx:Exit->Act->World->Prop}{Q:Γ->List PV->PHp->Prop}:∀ (l:List Oper) (g:Γ) (env:List PV) (ph:PHp) (Z:Nat->Prop) (H:IH) (m:Nat->Nat) (zFA:Env) (D:Nat->Prop) (f:Inj) (a:Act) (wd:World),
 Rel P f H wd->uY G f->qE P f zFA a.tmps.toList->Marks B f wd a.defers->(∀ o∈l,o.op.operands.toList.all (kR (qX f))=true)->St P w g env ph Z H m zFA D->H.base<=H.size ->
 (pops P tab inl nm (ops.toList.map (·.dst)) l env ph).zF5 P G w Q g ->
 (∀ (g':Γ) (env':List PV) (ph':PHp) (Z':Nat->Prop) (H':IH) (m':Nat->Nat) (zFZ:Env) (D':Nat->Prop) (f':Inj) (a':Act) (w':World),Q g' env' ph'->Rel P f' H' w'->Grow f H wd f' H' w'->qE P f' zFZ a'.tmps.toList->Marks B f' w' a'.defers->St P w g' env' ph' Z' H' m' zFZ D' ->
   StD Z H (own m ph) D Z' H' (own m' ph') D'->KR (inP nm) (own m ph) (own m' ph')->Qx .normal a' w')->wpListIn F 0 P ops Qx l a wd
 | [],g,env,ph,Z,H,m,zFA,D,f,a,wd,hR,hG,zFI,hm,_,hs,hb,h,hK=>hK g env ph Z H m zFA D f a wd h hR (.refl _ _ _) zFI hm hs .refl (.refl _ _)
 | o::l,g,env,ph,Z,H,m,zFA,D,f,a,wd,hR,hG,zFI,hm,hok,hs,hb,h,hK=>by
   unfold pops at h;unfold wpListIn;unfold vB at h;split at h
   ·rename_i hw;rw[y7 zFI (o8 hs.vrl hw),if_pos rfl]
    have next:∀ (g':Γ) (Z':Nat->Prop) (m':Nat->Nat) (v:PV) (ph2:PHp) (u:Value) (H':IH) (D':Nat->Prop) (f':Inj) (v':Value) (w':World),(pops P tab inl nm (ops.toList.map (·.dst)) l (yL env o.dst v) ph2).zF5 P G w Q g'->St P w g' env ph2 Z' H' m' zFA D'->VR P Z' H' (own m' ph2) v u->StD Z H (own m ph) D Z' H' (own m' ph2) D'->KR (inP nm) (own m ph) (own m' ph2) ->
     Rel P f' H' w'->Grow f H wd f' H' w'->zFB P f' u v'->wpListIn F 0 P ops Qx l (a.put o.dst v') w':=by
     intro g' Z' m' v ph2 u H' D' f' v' w' hq s1 b2 b4 b5 k1 k2 k3
     refine fM hF hns ht l g' (yL env o.dst v) ph2 Z' H' m' (zFA.zFT o.dst u) D' f' (a.put o.dst v') w' k1 (hG.mono k2.le) (kV (zFI.mono k2.le) k3 _) (by rw[put_defers];exact Marks.grow k2 _ hm)
      (fun o' ho'=>zM1.2 fun x hx=>jI (zF k2.le) (zM1.1 (hok o' (by simp[ho'])) x hx)) ⟨s1.hp,s1.vrl.zFT b2 _,s1.wd,s1.dis⟩ (by rw[b4.base];exact zNP hb b4.size) hq ?_
     intro g2 env' ph' Z2 H2 m2 zFZ D2 f2 a2 w2 q1 q2 q3 q4 q5 q6 q7 q8;exact hK g2 env' ph' Z2 H2 m2 zFZ D2 f2 a2 w2 q1 q2 (k2.trans q3) q4 q5 q6 (b4.trans q7) (b5.trans q8)
    split at h
    ·exact h.elim
    ·rename_i v ph1 hx
     have hh:(needs o.op=true->fresh nm (qH nm o.dst) env ph=true)∧(pops P tab inl nm (ops.toList.map (·.dst)) l (yL env o.dst v) ph1).zF5 P G w Q g:=by
      unfold q8I at h
      cases hn:needs o.op with
      | true=>rw[hn] at h;exact⟨fun _=>h.1,h.2⟩
      | false=>rw[hn] at h;exact⟨fun h=>by (cases h),h⟩
     refine qLK hF hns ht hR hG zFI (hok o (by simp)) hs.hp hb hs.vrl hx hh.1 fun Z' m' u H' f' v' w' b1 b2 b3 b4 b5 k1 k2 k3=>?_
     exact next g Z' m' v ph1 u H' D f' v' w' hh.2 (hs.step b1 b3 b4) b2 (.of b4) b5 k1 k2 k3
    ·rename_i f1 as ph1 hx;obtain⟨R,hc,hk⟩:=h;refine q42 hF hR hG zFI (hok o (by simp)) hs.hp hb hs.vrl hx hc (fun v ph2 hr=>(hk v ph2 hr).1) fun Z' m' v ph2 u H' f' v' w' hr b1 b2 b3 b4 b5 k1 k2 k3=>?_
     exact next g Z' m' v ph2 u H' D f' v' w' (hk v ph2 hr).2 (hs.step b1 b3 b4) b2 (.of b4) b5 k1 k2 k3
    ·rename_i l1 as ph0 hx;obtain⟨zGF,tys,ph1,g',b,hfz,hc,hk⟩:=h;refine zBX hF hR hG zFI (hok o (by simp)) hs hb hx hfz hc fun Z' H' D' f' v' w' s1 s2 s3 k1 k2 k3=>?_
     exact next g' Z' m (fvv (.bool b)) ph1 (.bool b) H' D' f' v' w' hk s1 (.f (.v rfl rfl)) s2 s3 k1 k2 k3
   ·rename_i hw;rw[y7 zFI (o8 hs.vrl hw),if_neg (by simp)];refine⟨fun g _=>hF.fn g,fM hF hns ht l g (yL env o.dst (.tup [])) ph Z H m (zFA.zFT o.dst undef) D f (a.put o.dst undef) wd hR hG (kV zFI .undef _) (by rw[put_defers];exact hm) (fun o' ho'=>hok o' (by simp[ho'])) ⟨hs.hp,hs.vrl.zFT (VRL.zHM (vs:=#[]) .nil) _,hs.wd,hs.dis⟩ hb h hK⟩
   ·exact h.elim
theorem zF2.zLZ (s:zF2 P good nat G tab){id:Nat}{ops:Array Oper}{g:Γ}{env:List PV}{ph:PHp}{Q:YQ Γ}(hok:gK G ops=true)
 (h:(pops P tab inl nm (ops.toList.map (·.dst)) ops.toList env ph).zF5 P G w (fun g e p=>Q .normal g e p) g):qQ P G rd nm w (.region id ops false) g env ph Q:=by
 intro Z H m zFA D hs hb B F f a wd hF hr hR hG zFI hm;refine wpIn_region_list (fM hF s.s.spec s.t ops.toList g env ph Z H m zFA D f a wd hR hG zFI hm (fun o ho=>zM1.1 (kN hG hok) o (by simpa using ho)) hs hb h ?_);intro g' env' ph' Z' H' m' zFZ D' f' a' w' q1 q2 q3 q4 q5 q6 q7 q8;exact⟨⟨.normal,zFZ,H'⟩,f',⟨Z',m',env',ph',g',D',q6,q7,q8,q1⟩,rfl,q2,q3,q4,q5⟩
theorem zF2.zL0 (s:zF2 P good nat G tab){id:Nat}{ops:Array Oper}{g:Γ}{env:List PV}{ph:PHp}{Q:YQ Γ}{n0:Nat}{o:Oper}(hok:gK G ops=true)(hd:fO ops=true)(hal:fV ops=true)(ho:ops[n0]?=some o)(hn:n0+1=ops.size)(hlast:∀ i,i < n0->vH (Region.before ops) i n0=true)
 (h:(qK1 P tab nm (ops.toList.map (·.dst)) (dBo ops) env 0 (ops.toList.take n0) env ph [] [] [] []).holds P G fun e p=>(pops P tab inl nm (ops.toList.map (·.dst)) [o] e p).zF5 P G w (fun g e p=>Q .normal g e p) g):qQ P G rd nm w (.region id ops true) g env ph Q:=by
 intro Z H m zFA D hs hb B F f a wd hF hr hR hG zFI hm;refine wpIn_region_any s.s.mix (s.zKX (B:=B) (n0:=n0) (K:=kZ P B f H wd _) (by omega) (fun i j h0 h1 h2=>(show j=n0 by omega) ▸ hlast i h0) hok hd hal h hs.hp hb hs.vrl hF hR hG zFI hm ?_);intro e p fuel S Z' H' m' f' zFZ a' w' hq k1 k2 k3 k4 k5 k6 k7 k8 k9 k10 k11 k12;have hnj:¬ sel S n0:=fun hs=>by have:=(k3 n0 (by omega)).1 hs;omega
 have hrd:n0∈Region.ready .any ops S:=by
  rw[mem_ready];refine⟨?_,o,ho,fun e he hbd=>?_⟩
  ·unfold sel at hnj;rw[zND] at hnj ⊢;rw[zNG (by omega)] at hnj ⊢;simpa using hnj
  ·have:=(qM9 hd).back n0 o ho e he hbd;exact (k3 e.on (by omega)).2 this
 cases fuel with
 | zero =>
   exfalso;have hz:unl ops S=0:=by omega
   unfold unl at hz;have:=zQM.1 hz n0 (zPH.2 (by omega));exact hnj (by unfold sel;simpa using this)
 | succ fuel =>
   refine⟨fun h=>(by rw[h] at hrd;cases hrd),fun j hj=>?_⟩
   have hjn:j=n0:=by
    rw[mem_ready] at hj;obtain⟨h1,o1,ho1,_⟩:=hj;have hlt:=(zNB.1 ho1).1;rcases Nat.lt_or_ge j n0 with h | h
    ·exfalso;have h2:=(k3 j hlt).2 h;unfold sel at h2;rw[zND,zNG (by omega)] at h1 h2;simp only[zO4] at h1 h2;rw[h1] at h2;cases h2
    ·omega
   subst hjn;have hjs:j < S.size:=by omega
   unfold wpOpIn;rw[ho];simp only;have zKZ:=kN (hG.mono k5.le) hok
   have hl:=fM (ops:=ops) (B:=B) (Qx:=kZ P B f H wd fun o=>∃ Z' m' env' ph' g' D',St P w g' env' ph' Z' o.H m' o.env D'∧StD Z H (own m ph) D Z' o.H (own m' ph') D'∧KR (inP nm) (own m ph) (own m' ph')∧Q o.e g' env' ph') hF s.s.spec s.t [o] g e p Z' H' m' zFZ D f' a' w' k4 (hG.mono k5.le) k6 k7 (fun o' ho'=>zM1.1 (by unfold gK at zKZ;exact zKZ) o' (by
    have:o'=o:=by simpa using ho'
    subst this
    exact zN5 (by simpa using ho))) (hs.step k8 k10 k11) k9 hq (by
    intro g2 e2 p2 Z2 H2 m2 zK0 D2 f2 a2 w2 q1 q2 q3 q4 q5 q6 q7 q8
    exact⟨⟨.normal,zK0,H2⟩,f2,⟨Z2,m2,e2,p2,g2,D2,q6,(StD.of k11).trans q7,k12.trans q8,q1⟩,rfl,q2,k5.trans q3,q4,q5⟩)
   have hall:∀ i,i < ops.size->sel (S.setIfInBounds j true) i:=fun i hi=>by
    rw[yM hjs];rcases Nat.lt_or_ge i j with h | h
    ·exact .inr ((k3 i hi).2 h)
    ·exact .inl (by omega)
   have fin:∀ a w,kZ P B f H wd (fun o=>∃ Z' m' env' ph' g' D',St P (‹Wld Γ›) g' env' ph' Z' o.H m' o.env D'∧StD Z H (own m ph) D Z' o.H (own m' ph') D'∧KR (inP nm) (own m ph) (own m' ph')∧Q o.e g' env' ph') .normal a w->wpAnyIn F 0 P .any ops (kZ P B f H wd fun o=>∃ Z' m' env' ph' g' D',St P (‹Wld Γ›) g' env' ph' Z' o.H m' o.env D'∧StD Z H (own m ph) D Z' o.H (own m' ph') D'∧KR (inP nm) (own m ph) (own m' ph')∧Q o.e g' env' ph') fuel (S.setIfInBounds j true) a w:=fun a w h=>qFW (by simp[k2]) hall h
   unfold wpListIn at hl;by_cases hw:Region.wanted o (yielded ops a'.tmps)=true
   ·rw[if_pos hw] at hl ⊢;exact Oper.wpIn_mono (fun a w h=>fin a w h) hl
   ·rw[if_neg hw] at hl ⊢;exact⟨hl.1,fin _ _ hl.2⟩
end
end Go.Idl
