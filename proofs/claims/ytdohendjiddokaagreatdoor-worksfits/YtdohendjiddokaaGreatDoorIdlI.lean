/- The soundness of ideal runs, and rules for their use. Conditions: none. -/
import Derived.Test.YtdohendjiddokaaGreatDoorIdlF
set_option linter.all false
namespace Go.Idl
variable {P:Program}{good:FuncId->Bool}{nat:xJ}
def q2S:xJ:=fun _=>none
theorem qV7:uE q2S:=by intro f k h;cases h
theorem qSQ {G:Nat->Bool}:vW P G q2S:=by intro f k h;cases h
end Go.Idl
namespace Go.Idl
variable {P:Program}{good:FuncId->Bool}{nat:xJ}
structure Old (H H':IH):Prop where
 size:H.size<=H'.size
 base:H'.base=H.base
 get:∀ b,b < H.size->H'.get b=H.get b
theorem Old.refl (H:IH):Old H H:=⟨zP0 _,rfl,fun _ _=>rfl⟩
theorem Old.trans {H H1 H2:IH}(a:Old H H1)(b:Old H1 H2):Old H H2 :=
 ⟨zQM a.size b.size,b.base.trans a.base,fun x hx=>(b.get x (zP3 hx a.size)).trans (a.get x hx)⟩
theorem Old.push (H:IH)(o:Obj):Old H (H.push o):=⟨by simp,rfl,fun x hx=>by rw[IH.zGX,if_neg (by omega)]⟩
theorem Rel.zMK {f:Inj}{H:IH}{w:World}{r s:Nat}{c:Array Value}{el:TypeId}{fz:Nat×Nat}(hR:Rel P f H w)(hr:w.heap[r]?=some (.cells c el fz))(hro:∀ b e,f b=some e->e.r=r->e.ro=true)
 (cI:Array Value) (elI:TypeId) (hs:s+cI.size<=c.size) (hv:∀ (i:Nat) v,cI[i]?=some v->∃ v',c[s+i]?=some v'∧zGO P f v v') :
 Rel P (f.add H.size ⟨r,s,c.size,true⟩) (H.push (.cells cI elI (0,1))) w∧f.le (f.add H.size ⟨r,s,c.size,true⟩):=by
 have hnone:f H.size=none:=bG hR;have hle:f.le (f.add H.size ⟨r,s,c.size,true⟩):=Inj.zHU hnone;have hlt:r < w.heap.size:=(zQA.1 hr).1;refine⟨⟨?_,?_,?_,?_,?_,?_⟩,hle⟩
 ·intro b e hb;by_cases e1:b=H.size
  ·subst e1;simp
  ·rw[Inj.zGQ e1] at hb;have:=hR.dom b e hb;simp;omega
 ·intro b hb;simp only[IH.size_push] at hb;rw[IH.zGX,if_neg (by omega)];exact hR.fresh b (by omega)
 ·intro b e hb;by_cases e1:b=H.size
  ·subst e1;rw[Inj.add_same] at hb;cases hb;exact hlt
  ·rw[Inj.zGQ e1] at hb;exact hR.bound b e hb
 ·intro b e o hb ho;by_cases e1:b=H.size
  ·subst e1;rw[Inj.add_same] at hb;cases hb;rw[IH.zGX,if_pos rfl] at ho;cases ho;refine⟨c,el,fz,hr,rfl,hs,fun i v hi=>?_,fun h=>by simp[bK] at h,fun h=>by simp at h⟩;obtain⟨v',h1,h2⟩:=hv i v hi;exact⟨v',h1,h2.mono hle⟩
  ·rw[Inj.zGQ e1] at hb;rw[IH.zGX,if_neg e1] at ho;exact (hR.obj b e o hb ho).mono hle
 ·intro b1 b2 e1 e2 o1 o2 hne h1 h2 g1 g2 l1 l2 hr';by_cases x1:b1=H.size
  ·subst x1;rw[Inj.add_same] at h1;cases h1;rw[Inj.zGQ (Ne.symm hne)] at h2;exact⟨rfl,hro b2 e2 h2 hr'.symm⟩
  ·rw[Inj.zGQ x1] at h1;by_cases x2:b2=H.size
   ·subst x2;rw[Inj.add_same] at h2;cases h2;exact⟨hro b1 e1 h1 hr',rfl⟩
   ·rw[Inj.zGQ x2] at h2;rw[IH.zGX,if_neg x1] at g1;rw[IH.zGX,if_neg x2] at g2;exact hR.sep b1 b2 e1 e2 o1 o2 hne h1 h2 g1 g2 l1 l2 hr'
 ·intro b1 b2 e1 e2 h1 h2 hr';by_cases x1:b1=H.size
  ·subst x1;rw[Inj.add_same] at h1;cases h1;by_cases x2:b2=H.size
   ·subst x2;rw[Inj.add_same] at h2;cases h2;rfl
   ·rw[Inj.zGQ x2] at h2;exact (hro b2 e2 h2 hr'.symm).symm
  ·rw[Inj.zGQ x1] at h1;by_cases x2:b2=H.size
   ·subst x2;rw[Inj.add_same] at h2;cases h2;exact hro b1 e1 h1 hr'
   ·rw[Inj.zGQ x2] at h2;exact hR.zHD b1 b2 e1 e2 h1 h2 hr'
end Go.Idl
namespace Go.Idl
variable {P:Program}{good:FuncId->Bool}{nat:xJ}{rd:Bool}
variable {G:Nat->Bool}{H:IH}{Q:Out->Prop}{c:Code}{env:Env}
def Holds (P:Program)(G:Nat->Bool)(rd:Bool)(c:Code)(env:Env)(H:IH)(Q:Out->Prop):Prop :=
 ∀ (B:Nat) (F:Fence) (f:Inj) (a:Act) (w:World),bE F->zH5 rd F w->Rel P f H w->gG G f->qD P f env a.tmps.toList->Marks B f w a.defers->c.wpIn F 0 P (jO P B f H w Q) a w
structure Setup (P:Program) (good:FuncId->Bool) (nat:xJ) (G:Nat->Bool):Prop where
 mix:P.follows .mixedOrders=true
 ext:uE nat
 spec:vW P G nat
 good:q4F P good G
theorem Setup.run (s:Setup P good nat G)(n:Nat)(hc:codeOk G rd c=true)(h:(iex P good nat n (.code c env) H).holds Q):Holds P G rd c env H Q:=by
 intro B F f a w hF hr hR hG zGV hm;exact (qLN s.ext s.spec s.good (fun _ _ hc hr=>qFU s.mix hc hr) n).1 B F rd c env H f a w Q hF hr hR hG (qP hG _ _ hc) zGV hm h
theorem Holds.seq {x y:Code}{zGS:Env}{H1:IH}(hx:Holds P G rd x env H fun o=>o=⟨.normal,zGS,H1⟩)(hy:Holds P G rd y zGS H1 Q):Holds P G rd (.seq x y) env H Q:=by
 intro B F f a w hF hr hR hG zGV hm;refine wpIn_seq (wpIn_mono (hx B F f a w hF hr hR hG zGV hm) ?_);rintro e a' w' ⟨o,f',rfl,rfl,h1,h2,h3,h4⟩;exact wpIn_mono (hy B F f' a' w' hF (hr.mono h2.lps) h1 (hG.mono h2.le) h3 h4) fun e a w=>kX h2 fun _ h=>h
theorem qTY {g:FuncId}{fn:Func}{args args':List Value}{f:Inj}{w:World}{Q:Value×IH->Prop}(hfn:P.funcs[g]?=some fn)(hb:fn.body=some c)
 (hR:Rel P f H w) (hG:gG G f) (ha:qD P f args args')
 (h:Holds P G false c (args++List.replicate (fn.ntmps - args.length) undef) H fun o=>(o.e=.normal∨o.e=.ret)∧∃ v,vG P fn o.env o.H=some v∧Q (v,o.H)):CallsIn Fence.wide 0 P g args'.toArray w (Comes P f H w Q):=by
 have zGV:qD P f (args++List.replicate (fn.ntmps - args.length) undef) (args'.toArray++Array.replicate (fn.ntmps - args'.toArray.size) undef).toList:=by
  have e1:(args'.toArray++Array.replicate (fn.ntmps - args'.toArray.size) undef).toList=args'++List.replicate (fn.ntmps - args.length) undef:=by simp[ha.1]
  rw[e1];refine ha.append ?_
  have key:∀ n,qD P f (List.replicate n undef) (List.replicate n undef):=by
   intro n
   induction n with
   | zero=>exact .nil
   | succ n ih=>exact .cons .undef ih
  exact key _
 refine callsIn_of_wp_marks hfn hb trivial (wpIn_mono (h w.heap.size Fence.wide f _ w qJP (.none rfl) hR hG zGV (zP0 _)) ?_);rintro e a' w' ⟨o,f',⟨he,v,hv,hq⟩,rfl,k1,k2,k3,k4⟩
 have done:LeavesInM Fence.wide 0 P fn a'.tmps (Comes P f H w Q) a'.defers .returning w':=by
  refine aZ a'.defers w' k1 k4 fun w2 hR2 hsame hsz hot=>?_
  obtain⟨v',h3,h4⟩:=nS (fn:=fn) k3 hR2 hv;refine⟨v',h3,v',(v,o.H),f',rfl,hq,hR2,⟨k2.zHN,k2.stay,k2.le,by rw[hsz];exact k2.size,fun r hr ho=>?_,k2.un,⟨hot.1.trans k2.out.1,hot.2.1.trans k2.out.2.1,hot.2.2.trans k2.out.2.2⟩,fun r h=>⟨(k2.lps r h).choose,(hsame r (fun d hd=>o7 _ k4 r h.lt d hd)).trans (k2.lps r h).choose_spec⟩⟩,h4⟩;obtain⟨q1,q2⟩:=k2.keep r hr ho;exact⟨q1,by rw[hsame r (fun d hd=>o7 _ k4 r hr d hd)];exact q2⟩
 rcases he with he | he
 ·rw[he];exact done
 ·rw[he];exact done
noncomputable def q73 (l:List (Nat×Obj)):Tr Obj:=List.rec .nil (fun p _ ih=>ih.set p.1 p.2) l
noncomputable def q9Z (l:List (Nat×Obj))(n:Nat):IH:=⟨q73 l,n,0,[]⟩
end Go.Idl
namespace Go.Idl
variable {P:Program}{good:FuncId->Bool}{nat:xJ}{G:Nat->Bool}{rd:Bool}
variable {H:IH}{Q:Out->Prop}{env:Env}{x y:Code}
theorem Holds.mono {c:Code}{Q':Out->Prop}(h:Holds P G rd c env H Q)(hq:∀ o,Q o->Q' o):Holds P G rd c env H Q':=by
 intro B F f a w hF hr hR hG zGV hm;exact wpIn_mono (h B F f a w hF hr hR hG zGV hm) fun e a w=>kX (.refl _ _ _) hq
theorem Holds.zML {Q1:Out->Prop}(hx:Holds P G rd x env H Q1)(hy:∀ o,Q1 o->o.e=.normal->Holds P G rd y o.env o.H Q)(ho:∀ o,Q1 o->o.e≠.normal->Q o):Holds P G rd (.seq x y) env H Q:=by
 intro B F f a w hF hr hR hG zGV hm;refine wpIn_seq (wpIn_mono (hx B F f a w hF hr hR hG zGV hm) ?_);rintro e a' w' ⟨o,f',hq,rfl,h1,h2,h3,h4⟩
 cases he:o.e with
 | normal=>exact wpIn_mono (hy o hq he B F f' a' w' hF (hr.mono h2.lps) h1 (hG.mono h2.le) h3 h4) fun e a w=>kX h2 fun _ h=>h
 | exit id=>exact⟨o,f',ho o hq (by rw[he];simp),by rw[he],h1,h2,h3,h4⟩
 | goto l=>exact⟨o,f',ho o hq (by rw[he];simp),by rw[he],h1,h2,h3,h4⟩
 | ret=>exact⟨o,f',ho o hq (by rw[he];simp),by rw[he],h1,h2,h3,h4⟩
theorem Holds.cond {v:Operand}{t:Bool}(hok:jC G v=true)(hv:env.val v=.bool t)(hx:t=true->Holds P G rd x env H Q)(hy:t=false->Holds P G rd y env H Q):Holds P G rd (.cond v x y) env H Q:=by
 intro B F f a w hF hr hR hG zGV hm;have hev:=pU zGV (j3 hG hok);rw[hv] at hev;refine wpIn_cond (t:=t) hev.zI1 ?_
 cases t with
 | true=>exact hx rfl B F f a w hF hr hR hG zGV hm
 | false=>exact hy rfl B F f a w hF hr hR hG zGV hm
def qLH (id:Nat)(Q:Out->Prop)(o:Out):Prop :=
 match o.e with
 | .exit id'=>if id'=id then Q ⟨.normal,o.env,o.H⟩ else Q o
 | _=>Q o
theorem Holds.block {id:Nat}(hx:Holds P G rd x env H (qLH id Q)):Holds P G rd (.block id x) env H Q:=by
 intro B F f a w hF hr hR hG zGV hm;refine wpIn_block (wpIn_mono (hx B F f a w hF hr hR hG zGV hm) ?_);rintro e a' w' ⟨o,f',hq,rfl,h1,h2,h3,h4⟩;unfold qLH at hq
 cases he:o.e with
 | normal=>rw[he] at hq;exact⟨o,f',hq,by rw[he],h1,h2,h3,h4⟩
 | exit id' =>
   rw[he] at hq;simp only[qLX,Exit.inBlock];simp only at hq;by_cases hid:id'=id
   ·rw[if_pos hid];rw[if_pos hid] at hq;exact⟨⟨.normal,o.env,o.H⟩,f',hq,rfl,h1,h2,h3,h4⟩
   ·rw[if_neg hid];rw[if_neg hid] at hq;exact⟨o,f',hq,by rw[he];rfl,h1,h2,h3,h4⟩
 | goto l=>rw[he] at hq;exact⟨o,f',hq,by rw[he],h1,h2,h3,h4⟩
 | ret=>rw[he] at hq;exact⟨o,f',hq,by rw[he],h1,h2,h3,h4⟩
theorem Holds.skip (h:Q ⟨.normal,env,H⟩):Holds P G rd .skip env H Q:=by
 intro B F f a w hF hr hR hG zGV hm;exact wpIn_skip (vN (e:=.normal) hR zGV hm h)
theorem Holds.label {l:Nat}(h:Q ⟨.normal,env,H⟩):Holds P G rd (.label l) env H Q:=by
 intro B F f a w hF hr hR hG zGV hm;exact wpIn_label (vN (e:=.normal) hR zGV hm h)
theorem Holds.ret {env:Env}{H:IH}{Q:Out->Prop}(h:Q ⟨.ret,env,H⟩):Holds P G rd .ret env H Q:=by
 intro B F f a w hF hr hR hG zGV hm;exact wpIn_ret (vN (e:=.ret) hR zGV hm h)
theorem Holds.exit {id:Nat}{env:Env}{H:IH}{Q:Out->Prop}(h:Q ⟨.exit id,env,H⟩):Holds P G rd (.exit id) env H Q:=by
 intro B F f a w hF hr hR hG zGV hm;exact wpIn_exit (vN (e:=.exit id) hR zGV hm h)
theorem Holds.scope (hx:Holds P G rd x env H fun o=>(∀ l,o.e≠.goto l)∧Q o):Holds P G rd (.scope x) env H Q:=by
 intro B F f a w hF hr hR hG zGV hm;refine wY (wpIn_mono (hx B F f a w hF hr hR hG zGV hm) ?_);rintro e a' w' ⟨o,f',⟨hn,hq⟩,rfl,h1,h2,h3,h4⟩
 cases he:o.e with
 | normal=>exact⟨o,f',hq,by rw[he],h1,h2,h3,h4⟩
 | exit id=>exact⟨o,f',hq,by rw[he],h1,h2,h3,h4⟩
 | goto l=>exact absurd he (hn l)
 | ret=>exact⟨o,f',hq,by rw[he],h1,h2,h3,h4⟩
theorem Holds.loop (I:Nat->Env->IH->Prop)
 (hx:∀ n env H,I n env H->Holds P G rd x env H fun o=>match o.e with
   | .normal=>∃ m,m < n∧I m o.env o.H
   | _=>Q o) {n:Nat} {env:Env} {H:IH} (h:I n env H):Holds P G rd (.loop x) env H Q:=by
 intro B F f a w hF hr hR hG zGV hm
 let J:Act->World->Nat->Prop:=fun a1 w1 m=>∃ zGS H1 f1,I m zGS H1∧Rel P f1 H1 w1∧Grow f H w f1 H1 w1∧qD P f1 zGS a1.tmps.toList∧Marks B f1 w1 a1.defers
 refine wpIn_loop (fun a1 w1=>∃ m,J a1 w1 m) (fun a1 w1=>least (J a1 w1)) ⟨n,env,H,f,h,hR,.refl _ _ _,zGV,hm⟩ ?_;intro a1 w1 hI;obtain⟨⟨zGS,H1,f1,hi,r1,g1,v1,m1⟩,hmin⟩:=d9 hI;generalize hm0:least (J a1 w1)=m at *;refine wpIn_mono (hx m zGS H1 hi B F f1 a1 w1 hF (hr.mono g1.lps) r1 (hG.mono g1.le) v1 m1) ?_;rintro e a2 w2 ⟨o,f2,hq,rfl,k1,k2,k3,k4⟩
 cases he:o.e with
 | normal =>
   rw[he] at hq;obtain⟨m',hlt,hi'⟩:=hq
   have hJ:J a2 w2 m':=⟨o.env,o.H,f2,hi',k1,g1.trans k2,k3,k4⟩
   exact⟨⟨m',hJ⟩,by have:=(d9 ⟨m',hJ⟩).2 m' hJ;show least (J a2 w2) < _;omega⟩
 | exit id=>rw[he] at hq;exact⟨o,f2,hq,by rw[he],k1,g1.trans k2,k3,k4⟩
 | goto l=>rw[he] at hq;exact⟨o,f2,hq,by rw[he],k1,g1.trans k2,k3,k4⟩
 | ret=>rw[he] at hq;exact⟨o,f2,hq,by rw[he],k1,g1.trans k2,k3,k4⟩
theorem Setup.region (s:Setup P good nat G)(n:Nat){id:Nat}{ops:Array Oper}{env zGS:Env}{H H1:IH}{Q:Out->Prop}(hok:gF G ops=true)(h:q5G P (iex P good nat n) nat ops ops.toList env H=.ret (zGS,H1))
 (hq:Q ⟨.normal,zGS,H1⟩):Holds P G rd (.region id ops false) env H Q:=by
 refine s.run (n+1) (by simp[codeOk,hok]) ?_;have e:iex P good nat (n+1) (.code (.region id ops false) env) H=(q5G P (iex P good nat n) nat ops ops.toList env H).bind fun r=>.ret ⟨.normal,r.1,r.2⟩:=rfl
 rw[e,h];exact hq
end Go.Idl
namespace Go.Idl
variable {P:Program}{good:FuncId->Bool}{nat:xJ}{G:Nat->Bool}{rd:Bool}
theorem Rel.same {f:Inj}{H:IH}{w w':World}(h:Rel P f H w)(hs:w.heap.size<=w'.heap.size)(hw:∀ r,r < w.heap.size->w'.heap[r]?=w.heap[r]?)(hout:w'.os=w.os∧w'.output=w.output∧w'.tape=w.tape):Rel P f H w'∧Grow f H w f H w' :=
 ⟨⟨h.dom,h.fresh,fun b e hb=>zP3 (h.bound b e hb) hs,fun b e o hb ho=>by rw[hw _ (h.bound b e hb)];exact h.obj b e o hb ho,h.sep,h.zHD⟩,
   ⟨zP0 _,fun _ _ h=>h,f.le_refl,hs,fun r hr ho=>⟨ho,hw r hr⟩,fun _ _ h=>h,hout,fun r h=>⟨h.choose,(hw r h.lt).trans h.choose_spec⟩⟩⟩
def nC (n:Nat):Inj:=fun g=>cond (Nat.blt g n) (some ⟨g,0,zBG g,true⟩) none
def qG (n:Nat):Nat->Bool:=fun g=>Nat.blt g n
theorem yY {n g:Nat}{e:Emb}(h:nC n g=some e):g < n∧e=⟨g,0,zBG g,true⟩:=by
 unfold nC at h
 cases hb:Nat.blt g n with
 | false=>rw[hb] at h;cases h
 | true=>rw[hb] at h;cases h;exact⟨zP8 hb,rfl⟩
theorem qKE (n:Nat):gG (qG n) (nC n):=by
 intro g hg;have hg':Nat.blt g n=true:=hg;rw[bX];exact⟨⟨g,0,zBG g,true⟩,by unfold nC;rw[hg'];rfl,rfl,rfl,zBL g⟩
end Go.Idl
namespace Go.Idl
variable {P:Program}{good:FuncId->Bool}{nat:xJ}{rd:Bool}
section
variable {o:Oper}{t:TypeId}{k:IntKind}{a b:Int}{env:Env}{H:IH}
theorem q7N {op:BinOp}{v:Value}(h:eZ op k a b=some v):yX P o op t (.int k a) (.int k b) env H=some (.val v H):=by
 unfold yX zHI asI;simp only[qZG,cond_true,h]
end
theorem qBI {t e:TypeId}{b o len cap:Nat}{sp:Option TypeId}{k:IntKind}{i:Int}(ht:P.underlying t=some (.slice e))(hs:szT P e=some 1)(h0:0<=i)(hi:i < (len:Int)) :
 kN P t (.slice (some ⟨b,o,sp⟩) len cap) (.int k i)=some (.pointer (some ⟨b,o+i.toNat,none⟩)):=by
 unfold kN;simp only[ht,hs];rw[if_pos (by simp[h0,hi]),Nat.mul_one]
theorem qQP {t:TypeId}{b i:Nat}{H:IH}{v:Value}(ht:qMK P t=some false)(h:H.load b i=some v):kV P t (.pointer (some ⟨b,i,none⟩)) H=some v:=by
 unfold kV;simp only[ht,h]
noncomputable def enters (P:Program)(g:FuncId):Bool:=match P.funcs[g]? with
 | some fn=>fn.body.isSome&&(fn.name != "runtime.NumGoroutine")
 | none=>false
theorem qLC {o:Oper}{f:Operand}{args:Array Operand}{ts:Array TypeId}{env:Env}{H:IH}{g:FuncId}{first captured:Array Value}(hf:env.val f=.func (.func g) first captured)(he:enters P g=true) :
 yJ P o ⟨.value f,args,ts⟩ env H=some (.enter g (qFR first.toList (qFR (jA env.val args.toList) captured.toList)) H):=by
 have:fP P ⟨.value f,args,ts⟩ env H=some (.enter g (qFR first.toList (qFR (jA env.val args.toList) captured.toList)) H):=by
  unfold enters at he;unfold fP;simp only[hf];split at he
  ·rename_i fn hfn;simp only[zPY] at he;simp only[hfn,he.1,he.2,if_true]
  ·cases he
 unfold yJ;rw[this]
end Go.Idl
namespace Go.Idl
variable {P:Program}{good:FuncId->Bool}{nat:xJ}{G:Nat->Bool}{rd:Bool}
noncomputable def zC8 (w:Bool):Option Value->Option Bool
 | some v=>qVJ w v
 | none=>none
noncomputable def qSW (w:Bool)(env:Env):Option Tmp->Option Bool
 | some t=>zC8 w (zG env t)
 | none=>some false
theorem qS5 {ops:Array Oper}{d:Option Tmp}{op:Op}{ty:TypeId}{p:String}{a:Array Edge}{env:Env}{j:Nat}{w:Bool} :
 kS ops ⟨d,op,ty,p,a,some (j,w)⟩ env=qSW w env ((ops[j]?).bind (·.dst)):=by
 unfold kS qSW;simp only;split
 ·rename_i t ht;simp only[ht];rfl
 ·rename_i ht;simp only[ht]
end Go.Idl
namespace Go.Idl
end Go.Idl
namespace Go.Idl
variable {P:Program}{good:FuncId->Bool}{nat:xJ}{G:Nat->Bool}{rd:Bool}
noncomputable def qS0 (ds:List (Option Tmp))(j:Nat):Option Tmp:=match ds[j]? with
 | some d=>d
 | none=>none
noncomputable def qPC (ds:List (Option Tmp))(o:Oper)(env:Env):Option Bool:=match o.guard with
 | none=>some true
 | some (j,w)=>qSW w env (qS0 ds j)
theorem qN8 (ops:Array Oper)(o:Oper)(env:Env):kS ops o env=qPC (ops.toList.map (·.dst)) o env:=by
 obtain⟨d,op,ty,p,a,g⟩:=o
 cases g with
 | none=>rfl
 | some jw =>
   obtain⟨j,w⟩:=jw;rw[qS5];show qSW w env _=qSW w env _
   congr 1
   unfold qS0;rw[zQD];have:ops.toList[j]?=ops[j]?:=by simp
   rw[this];cases ops[j]? <;> rfl
end Go.Idl
namespace Go.Idl
variable {P:Program}{good:FuncId->Bool}{nat:xJ}{G:Nat->Bool}{rd:Bool}
end Go.Idl
namespace Go.Idl
end Go.Idl
namespace Go.Idl
variable {P:Program}
end Go.Idl
namespace Go.Idl
variable {P:Program}{good:FuncId->Bool}{nat:xJ}{G:Nat->Bool}{rd:Bool}
end Go.Idl
namespace Go.Idl
variable {P:Program}{good:FuncId->Bool}{nat:xJ}{G:Nat->Bool}{rd:Bool}
end Go.Idl
namespace Go.Idl
end Go.Idl
namespace Go.Idl
variable {P:Program}
def sM (f:Inj):Prop:=∀ b e,f b=some e->e.ro=true
theorem sM.add {f:Inj}{b:Nat}{e:Emb}(h:sM f)(he:e.ro=true):sM (f.add b e):=by
 intro x y hx;by_cases e1:x=b
 ·subst e1;rw[Inj.add_same] at hx;cases hx;exact he
 ·rw[Inj.zGQ e1] at hx;exact h x y hx
theorem Rel.zJ9 {f:Inj}{H:IH}{w:World}(hR:Rel P f H w)(hro:sM f)(h0:0 < w.heap.size):Rel P (f.add H.size ⟨0,1,0,true⟩) (H.push xH) w∧f.le (f.add H.size ⟨0,1,0,true⟩):=by
 have hnone:f H.size=none:=bG hR;have hle:f.le (f.add H.size ⟨0,1,0,true⟩):=Inj.zHU hnone;have zK1:sM (f.add H.size ⟨0,1,0,true⟩):=hro.add rfl;refine⟨⟨?_,?_,?_,?_,?_,?_⟩,hle⟩
 ·intro b e hb;by_cases e1:b=H.size
  ·subst e1;simp
  ·rw[Inj.zGQ e1] at hb;have:=hR.dom b e hb;simp;omega
 ·intro b hb;simp only[IH.size_push] at hb;rw[IH.zGX,if_neg (by omega)];exact hR.fresh b (by omega)
 ·intro b e hb;by_cases e1:b=H.size
  ·subst e1;rw[Inj.add_same] at hb;cases hb;exact h0
  ·rw[Inj.zGQ e1] at hb;exact hR.bound b e hb
 ·intro b e o hb ho;by_cases e1:b=H.size
  ·subst e1;rw[IH.zGX,if_pos rfl] at ho;cases ho;exact trivial
  ·rw[Inj.zGQ e1] at hb;rw[IH.zGX,if_neg e1] at ho;exact (hR.obj b e o hb ho).mono hle
 ·intro b1 b2 e1 e2 o1 o2 _ h1 h2 _ _ _ _ _;exact⟨zK1 b1 e1 h1,zK1 b2 e2 h2⟩
 ·intro b1 b2 e1 e2 h1 h2 _;rw[zK1 b1 e1 h1,zK1 b2 e2 h2]
theorem qSX {w:World}{a:Addr}{v:Value}(h:w.cell? a=some v):a.spot=none∧∃ c el fz,w.heap[a.block]?=some (.cells c el fz)∧c[a.off]?=some v:=by
 unfold World.cell? at h;split at h
 ·rename_i c el fz hc;split at h
  ·cases h
  ·rename_i hs;exact⟨by simpa using hs,c,el,fz,hc,h⟩
 ·cases h
theorem qUP {w:World}{a:Addr}{v:Value}{c:Array Value}{el:TypeId}{fz:Nat×Nat}{i:Nat}(hb:w.heap[a.block]?=some (.cells c el fz))(hs:a.spot=none)(h:w.cell? (a.add i)=some v):c[a.off+i]?=some v:=by
 unfold Addr.add at h;by_cases hi:i=0
 ·subst hi;rw[if_pos rfl] at h;unfold World.cell? at h;rw[hb] at h;simpa [hs] using h
 ·rw[if_neg hi] at h;unfold World.cell? at h;simpa [hb] using h
theorem zAY {f:Inj}{H:IH}{w:World}(hR:Rel P f H w)(hro:sM f){a:Addr}{L C:Nat}(hLC:L<=C)(hC:0 < C)(us:List Value)(hus:us.length=L)(V:Nat->Value)(hcell:∀ i,i < C->w.cell? (a.add i)=some (V i))
 (hv:∀ i u,us[i]?=some u->zGO P f u (V i)):∃ el,Rel P (f.add H.size ⟨a.block,a.off,(match w.heap[a.block]? with | some (.cells c _ _)=>c.size | _=>0),true⟩) (H.push (.cells us.toArray el (0,1))) w ∧
   f.le (f.add H.size ⟨a.block,a.off,(match w.heap[a.block]? with | some (.cells c _ _)=>c.size | _=>0),true⟩)∧a.spot=none:=by
 have h0:=hcell 0 hC;have e0:a.add 0=a:=by simp[Addr.add]
 rw[e0] at h0;obtain⟨hs,c,el,fz,hb,hc0⟩:=qSX h0
 have hsize:a.off+us.toArray.size<=c.size:=by
  simp only[zSM,hus];by_cases hL:L=0
  ·have:=(zQA.1 hc0).1;omega
  ·have:=(zQA.1 (qUP hb hs (hcell (L - 1) (by omega)))).1;omega
 have:=hR.zMK (r:=a.block) (s:=a.off) hb (fun b e hbe _=>hro b e hbe) us.toArray el hsize fun i v hi=>by
  have hi':us[i]?=some v:=by simpa using hi
  have hlt:i < L:=by rw[<-hus];exact (zP4.1 hi').1
  exact⟨V i,qUP hb hs (hcell i (by omega)),hv i v hi'⟩
 refine⟨el,?_,?_,hs⟩
 ·simp only[hb];exact this.1
 ·simp only[hb];exact this.2
end Go.Idl
namespace Go.Idl
variable {P:Program}
end Go.Idl
namespace Go.Idl
variable {P:Program}{good:FuncId->Bool}{nat:xJ}{G:Nat->Bool}{rd:Bool}
variable {H:IH}{Q:Value×IH->Prop}{args:List Value}{g:FuncId}{l:Nat}
inductive WkL:List Value->List Value->Prop
 | nil:WkL [] []
 | same {v:Value} {l m:List Value} (h:WkL l m):WkL (v::l) (v::m)
 | any {v:Value} {l m:List Value} (h:WkL l m):WkL (v::l) (unk::m)
theorem WkL.refl:∀ (l:List Value),WkL l l
 | []=>.nil
 | _::l=>.same (WkL.refl l)
theorem WkL.trans {a b c:List Value}(h:WkL a b):WkL b c->WkL a c:=by
 induction h generalizing c with
 | nil=>exact fun h=>h
 | same _ ih =>
   intro k
   cases k with
   | same k=>exact .same (ih k)
   | any k=>exact .any (ih k)
 | any _ ih =>
   intro k
   cases k with
   | same k=>exact .any (ih k)
   | any k=>exact .any (ih k)
def Wk (R:Env->IH->Prop):Env->IH->Prop:=fun e h=>∃ e',WkL e e'∧R e' h
open Classical in
noncomputable def ofS {α:Type}(pre:α->List Value->IH->Prop)(post:α->IH->Value->IH->Prop):List Value->IH->T (Value×IH):=fun args H =>
 if h:∃ x,pre x args H then .sp (fun r=>post (Classical.choose h) H r.1 r.2) .ret else .fail
noncomputable def zIM (nat:xJ)(g:FuncId){α:Type}(pre:α->List Value->IH->Prop)(post:α->IH->Value->IH->Prop):xJ:=fun x=>cond (Nat.beq x g) (some (ofS pre post)) (nat x)
theorem zCB {α:Type}{pre:α->List Value->IH->Prop}{post:α->IH->Value->IH->Prop}(uniq:∀ x y args H,pre x args H->pre y args H->x=y){x:α}{args:List Value}{H:IH}(hx:pre x args H) :
 ofS pre post args H=.sp (fun r=>post x H r.1 r.2) .ret:=by
 have h:∃ x,pre x args H:=⟨x,hx⟩
 unfold ofS;rw[dif_pos h,uniq _ _ _ _ (Classical.choose_spec h) hx]
theorem q0R {α:Type}{pre:α->List Value->IH->Prop}{post:α->IH->Value->IH->Prop}(hn:uE nat):uE (zIM nat g pre post):=by
 intro x y h args H;unfold zIM at h
 cases hb:Nat.beq x g with
 | false=>rw[hb] at h;exact hn x y h args H
 | true =>
   rw[hb] at h;cases h;unfold ofS;split
   ·exact trivial
   ·exact trivial
def gD (P:Program)(G:Nat->Bool)(g:FuncId)(args:List Value)(H:IH)(Q:Value×IH->Prop):Prop :=
 ∀ (args':List Value) (f:Inj) (w:World),Rel P f H w->gG G f->qD P f args args'->CallsIn Fence.wide 0 P g args'.toArray w (Comes P f H w Q)
theorem gD.mono {g:FuncId}{args:List Value}{H:IH}{Q Q':Value×IH->Prop}(h:gD P G g args H Q)(hq:∀ r,Q r->Q' r):gD P G g args H Q':=by
 intro args' f w hR hG ha;refine CallsIn.mono (h args' f w hR hG ha) ?_;rintro e w' ⟨v',r,f',k0,k1,k2,k3,k4⟩;exact⟨v',r,f',k0,hq r k1,k2,k3,k4⟩
theorem gD.of {fn:Func}{c:Code}{N:Nat}(hfn:P.funcs[g]?=some fn)(hb:fn.body=some c)(hN:fn.ntmps=N)
 (h:Holds P G false c (args++List.replicate (N - args.length) undef) H fun o=>(o.e=.normal∨o.e=.ret)∧∃ v,vG P fn o.env o.H=some v∧Q (v,o.H)):gD P G g args H Q:=by
 subst hN;exact fun args' f w hR hG ha=>qTY hfn hb hR hG ha h
theorem Setup.zIM (s:Setup P good nat G){g:FuncId}{α:Type}(pre:α->List Value->IH->Prop)(post:α->IH->Value->IH->Prop)
 (hk:∀ x args H,pre x args H->gD P G g args H fun r=>post x H r.1 r.2):Setup P good (Go.Idl.zIM nat g pre post) G:=by
 refine⟨s.mix,q0R s.ext,?_,s.good⟩;intro x y h args args' H f w Q hR hG ha hq;unfold Go.Idl.zIM at h
 cases hbx:Nat.beq x g with
 | false=>rw[hbx] at h;exact s.spec x y h args args' H f w Q hR hG ha hq
 | true =>
   rw[hbx] at h;have hx:x=g:=zPZ hbx;subst hx;cases h;unfold ofS at hq;split at hq
   ·rename_i he;exact (hk _ args H (Classical.choose_spec he)).mono (fun r hr=>hq r hr) args' f w hR hG ha
   ·exact hq.elim
def qBP (P:Program)(G:Nat->Bool)(l:Nat)(args:List Value)(H:IH)(Q:Value×IH->Prop):Prop :=
 ∀ (args':List Value) (f:Inj) (w:World) (e:Emb),Rel P f H w->gG G f->f l=some e->qD P f args args' ->
  ∃ fn tmps assign body,(Instr.yield e.r args'.toArray).run P w=.ok (.round e.r fn tmps assign body) w∧RoundIn Fence.wide 0 P e.r fn tmps assign body w (Comes P f H w Q)
theorem qBP.mono {l:Nat}{args:List Value}{H:IH}{Q Q':Value×IH->Prop}(h:qBP P G l args H Q)(hq:∀ r,Q r->Q' r):qBP P G l args H Q':=by
 intro args' f w e hR hG he ha;obtain⟨fn,tmps,assign,body,h1,h2⟩:=h args' f w e hR hG he ha;refine⟨fn,tmps,assign,body,h1,RoundIn.mono h2 ?_⟩;rintro e w' ⟨v',r,f',k0,k1,k2,k3,k4⟩;exact⟨v',r,f',k0,hq r k1,k2,k3,k4⟩
noncomputable def qXX (rk:Nat->List Value->IH->T (Value×IH)):Job->IH->T Out
 | .round l args,H=>(rk l args H).bind fun r=>.ret ⟨.normal,[r.1],r.2⟩
 | _,_=>.fail
def q47 (P:Program)(G:Nat->Bool)(rk:Nat->List Value->IH->T (Value×IH)):Prop:=∀ l args H Q,(rk l args H).holds Q->qBP P G l args H Q
theorem q67 {t:T (Value×IH)}(h:((t.bind fun r=>(.ret ⟨.normal,[r.1],r.2⟩:T Out)).bind uH).holds Q):t.holds Q:=by
 rw[T.zGY,T.zGY] at h;exact T.zGZ (fun r hr=>hr) _ h
theorem q3H {rk:Nat->List Value->IH->T (Value×IH)}(h:q47 P G rk):jM P G (qXX rk):=by
 intro l args args' H f w e Q hR hG he ha hq;exact h l args H Q (q67 hq) args' f w e hR hG he ha
theorem qN4 {rk:Nat->List Value->IH->T (Value×IH)}:qLR (qXX rk) nat (some (.round l args H))=((rk l args H).bind fun r=>(.ret ⟨.normal,[r.1],r.2⟩:T Out)).bind uH:=rfl
theorem qXC {lp:Loop}(hg:H.get l=some (.loop lp))(hst:lp.state=.ready)(hlen:args.length=lp.params.size)
 (hb:Holds P G true lp.assign ((lp.params.toList.zip args).foldl (fun e p=>yS e p.1 p.2) lp.tmps.toList) H fun o=>o.e=.normal∧∃ lp1,o.H.get l=some (.loop lp1)∧lp1.state=.ready ∧
   Holds P G true lp.body o.env (o.H.put l (.loop { lp1 with state:=.busy })) fun s=>∃ lp2,s.H.get l=some (.loop lp2) ∧
    Q (.bool (yV s.e).isNone,s.H.put l (.loop { lp2 with state:=if (yV s.e).isNone then .ready else .done,pending:=yV s.e }))):qBP P G l args H Q:=by
 intro args' f w e hR hG he ha;obtain⟨hro,lp',h1,g1,g2,g3,g4,g5,g6,g7,g8,g9,g10⟩:=wH hR he hg;refine⟨lp'.fn,_,lp'.assign,lp'.body,run_yield h1 (by rw[g3,<-hlen,ha.1];simp),?_⟩
 have zGV:qD P f ((lp.params.toList.zip args).foldl (fun e p=>yS e p.1 p.2) lp.tmps.toList) ((lp'.params.zip args'.toArray).foldl (fun tmps (t,a)=>tmps.setIfInBounds t a) lp'.tmps).toList:=by
  rw[<-zSG,Array.toList_zip];have:=qGU (lp'.params.toList.zip args') lp'.tmps;simp only[] at this ⊢;rw[this,g3];exact qIR lp.params.toList args args' _ _ ha g6
 refine roundIn_of_wpIn (F:=Fence.wide) trivial ?_;rw[g4,g5];refine wpIn_mono (hb w.heap.size (Fence.wide.inRound e.r) f _ w (dW _) ⟨rfl,fun l h=>by have:=zQZ h;subst this;exact⟨_,h1⟩⟩ hR hG zGV (zP0 _)) ?_;rintro ex a1 w1 ⟨o,f1,⟨heo,lp1,hg1,zK0,hq⟩,rfl,k1,k2,k3,k4⟩;rw[heo];have he1:=k2.le _ _ he;obtain⟨_,zJ5,q1,q2,q3,q4,q5,q6,q7,q8,q9,q10,q11⟩:=wH k1 he1 hg1;refine⟨_,run_beginRound q1 (by rw[q2,zK0]),?_⟩;obtain⟨p1,p2⟩:=dI .busy lp1.pending q10 k1 he1 hg1 q1;have e1:({ zJ5 with state:=.busy,pending:=lp1.pending }:Loop)={ zJ5 with state:=.busy }:=by rw[<-q3]
 have e2:({ lp1 with state:=.busy,pending:=lp1.pending }:Loop)={ lp1 with state:=.busy }:=rfl;rw[e1,e2] at p1;rw[e1] at p2;have hG1:=hG.mono k2.le;refine wpIn_mono (hq w.heap.size (Fence.wide.inRound e.r) f1 a1 _ (dW _) ⟨rfl,fun l h=>by have:=zQZ h;subst this;exact p2.lps _ ⟨_,q1⟩⟩ p1 hG1 k3 (Marks.grow p2 _ k4)) ?_;rintro ex2 a2 w2 ⟨s,f2,⟨lp2,hg2,hs⟩,rfl,s1,s2,s3,s4⟩;have he2:=s2.le _ _ he1;obtain⟨_,zNU,t1,t2,t3,t4,t5,t6,t7,t8,t9,t10,t11⟩:=wH s1 he2 hg2
 have zJ6:∀ c,yV s.e=some c->qMF c=true:=by
  intro c hc;cases hse:s.e <;> rw[hse] at hc <;> simp[yV] at hc <;> subst hc <;> rfl
 obtain⟨u1,u2⟩:=dI (if (yV s.e).isNone then .ready else .done) (yV s.e) zJ6 s1 he2 hg2 t1
 have fin:∃ v w',(Instr.endRound e.r (yV s.e)).run P w2=.ok v w'∧Comes P f H w Q (.returned v) w' :=
  ⟨_,_,run_endRound (yV s.e) t1,⟨_,_,f2,rfl,hs,u1,((k2.trans p2).trans s2).trans u2,.base _ rfl⟩⟩
 cases hse:s.e with
 | normal=>rw[hse] at fin;exact fin
 | ret=>rw[hse] at fin;exact fin
 | exit id=>rw[hse] at fin;exact fin
 | goto t=>rw[hse] at fin;exact fin
theorem Setup.zL2 (s:Setup P good nat G){v:Operand}{ps:Array Tmp}{x y:Code}{env:Env}{Q:Out->Prop}{first captured:Array Value}{Qc:Value×IH->Prop}(hv:jC G v=true)(hx:codeOk G true x=true)(hy:codeOk G true y=true)
 (hval:env.val v=.func (.func g) first captured) (hent:entered P g=true)
 (hcall:gD P G g (qFR first.toList (.func (.yield H.size) #[] #[]::captured.toList)) (H.push (.loop { state:=.ready,pending:=none,fn:=0,tmps:=env.toArray,params:=ps,assign:=x,body:=y,defers:=0 })) Qc)
 (hq:∀ r,Qc r->(kW (iex P good nat 2) H.size env r).holds Q):Holds P G rd (.rangeFunc v ps x y) env H Q:=by
 classical
 intro B F f a w hF hr hR hG zGV hm
 let L:List Value:=qFR first.toList (.func (.yield H.size) #[] #[]::captured.toList)
 let HL:IH:=H.push (.loop { state:=.ready,pending:=none,fn:=0,tmps:=env.toArray,params:=ps,assign:=x,body:=y,defers:=0 })
 let zK2:xJ:=fun g1=>if g1=g then some (fun args H1=>if args=L∧H1=HL then .sp Qc .ret else .fail) else none
 have hs1:vW P G zK2:=by
  intro g1 k hk args args' H1 f1 w1 Q1 hR1 hG1 ha1 hq1;simp only[zK2] at hk;split at hk
  ·rename_i hg1;subst hg1;cases hk;change T.holds Q1 (if args=L∧H1=HL then T.sp Qc T.ret else T.fail) at hq1;split at hq1
   ·rename_i hc;obtain⟨rfl,rfl⟩:=hc;exact (hcall.mono fun r hr=>hq1 r hr) args' f1 w1 hR1 hG1 ha1
   ·exact hq1.elim
  ·cases hk
 let zJ4:Job->IH->T Out:=fun j H=>match j with
  | .code c env=>iex P good nat 2 (.code c env) H
  | _=>.fail
 have zMM:xL P G (iex P good nat 2):=(qLN s.ext s.spec s.good (fun _ _ hc hr=>qFU s.mix hc hr) 2).1;have hrun:xL P G zJ4:=zMM
 have hc:kM P G (yK zJ4 zK2):=by
  intro g1 args args' H1 f1 w1 Q1 hR1 hG1 ha1 hq1;unfold yK at hq1;split at hq1
  ·rename_i k hk;exact hs1 g1 k hk args args' H1 f1 w1 Q1 hR1 hG1 ha1 hq1
  ·exact hq1.elim
 refine qDT hc hrun hF hr hR hG (j3 hG hv) (qP hG _ _ hx) (qP hG _ _ hy) zGV hm ?_;unfold jG;rw[hval];simp only[hent,cond_true];unfold yK;simp only[zK2,if_true,L,HL,and_self];exact fun r hr=>hq r hr
end Go.Idl
namespace Go.Idl
variable {P:Program}
variable {H:IH}{b:Nat}{el:TypeId}{o:Obj}
noncomputable def zAK (P:Program)(el:TypeId):Bool:=match P.info? el with
 | some info=>info.size==1&&decide (info.bytes<=64)&&((wT P el).map (·.cells.size))==some info.size
 | none=>false
structure El (P:Program) (st el:TypeId):Prop where
 und:P.underlying st=some (.slice el)
 sz:szT P el=some 1
 ag:qMK P el=some false
 ok:zAK P el=true
def Grown (H:IH)(el:TypeId)(lo:Nat)(v:Value)(vs:List Value):Prop :=
 (vs=[]∧v=.slice none 0 0)∨∃ b,lo<=b∧b < H.size∧v=.slice (some ⟨b,0,some el⟩) vs.length vs.length∧H.get b=some (.cells vs.toArray el zJ)
theorem Grown.nil (H:IH)(el:TypeId)(lo:Nat):Grown H el lo (.slice none 0 0) []:=.inl ⟨rfl,rfl⟩
theorem Grown.len {lo:Nat}{v:Value}{vs:List Value}(h:Grown H el lo v vs):∃ a,v=.slice a vs.length vs.length:=by
 rcases h with ⟨rfl,rfl⟩ | ⟨b,_,_,rfl,_⟩
 ·exact⟨none,rfl⟩
 ·exact⟨_,rfl⟩
theorem jV (hb:b < H.size):(H.push o).get b=H.get b:=by rw[IH.zGX,if_neg (by omega)]
theorem fE:(H.push o).get H.size=some o:=by rw[IH.zGX,if_pos rfl]
theorem xZ {x:Nat}(h:x≠b):(H.put b o).get x=H.get x:=by rw[IH.get_put,if_neg h]
theorem dN:(H.put b o).get b=some o:=by rw[IH.get_put,if_pos rfl]
def zES (H:IH)(el:TypeId)(lo hi:Nat)(v:Value)(zs:List Int):Prop :=
 (zs=[]∧v=.slice none 0 0)∨∃ b sp cap fz,lo<=b∧b < hi∧b < H.size∧v=.slice (some ⟨b,0,sp⟩) zs.length cap∧H.get b=some (.cells (zs.map (Value.int .i64)).toArray el fz)
def q2H (H:IH)(el:TypeId)(lo hi:Nat)(rows:List Value)(zss:List (List Int)):Prop:=rows.length=zss.length∧∀ (i:Nat) r zs,rows[i]?=some r->zss[i]?=some zs->zES H el lo hi r zs
theorem q2H.nil (H:IH)(el:TypeId)(lo hi:Nat):q2H H el lo hi [] []:=⟨rfl,fun i r zs h=>by simp at h⟩
theorem q2C {zs:List Int}{fz:Nat×Nat}{i:Nat}{z:Int}(h:H.get b=some (.cells (zs.map (Value.int .i64)).toArray el fz))(hz:zs[i]?=some z):H.load b i=some (.int .i64 z):=by
 unfold IH.load;rw[h];simp[hz]
end Go.Idl
namespace Go.Idl
variable {P:Program}{good:FuncId->Bool}{nat:xJ}{G:Nat->Bool}{rd:Bool}
variable {H:IH}{I:Nat->Env->IH->Prop}{J:Env->IH->Prop}{Q:Out->Prop}{env env':Env}{id id' n:Nat}{y:Code}
abbrev ST (P:Program)(G:Nat->Bool)(rd:Bool)(y:Code)(Q:Out->Prop)(o:Out):Prop :=
 match o.e with
 | .normal=>Holds P G rd y o.env o.H Q
 | _=>Q o
def BT (P:Program)(G:Nat->Bool)(rd:Bool)(id:Nat)(y:Code)(Q:Out->Prop)(o:Out):Prop :=
 match o.e with
 | .normal=>Holds P G rd y o.env o.H Q
 | .exit id'=>if id'=id then Holds P G rd y o.env o.H Q else Q o
 | _=>Q o
def LQ (I:Nat->Env->IH->Prop)(n:Nat)(id:Nat)(Q:Out->Prop)(o:Out):Prop :=
 match o.e with
 | .normal=>∃ m env',m < n∧WkL o.env env'∧I m env' o.H
 | .exit id'=>if id'=id then Q ⟨.normal,o.env,o.H⟩ else Q o
 | _=>Q o
theorem ST.go (h:Holds P G rd y env H Q):ST P G rd y Q ⟨.normal,env,H⟩:=h
theorem ST.ex (h:Q ⟨.exit id,env,H⟩):ST P G rd y Q ⟨.exit id,env,H⟩:=h
theorem BT.go (h:Holds P G rd y env H Q):BT P G rd id y Q ⟨.normal,env,H⟩:=h
theorem BT.ex (hne:id'≠id)(h:Q ⟨.exit id',env,H⟩):BT P G rd id y Q ⟨.exit id',env,H⟩:=by
 unfold BT;simp only[if_neg hne];exact h
theorem BZ.go (h:Q ⟨.normal,env,H⟩):qLH id Q ⟨.normal,env,H⟩:=h
theorem LQ.go (m:Nat)(hm:m < n)(hw:WkL env env')(hi:I m env' H):LQ I n id Q ⟨.normal,env,H⟩:=⟨m,env',hm,hw,hi⟩
theorem LQ.ex (hne:id'≠id)(h:Q ⟨.exit id',env,H⟩):LQ I n id Q ⟨.exit id',env,H⟩:=by
 unfold LQ;simp only[if_neg hne];exact h
def JT (J:Env->IH->Prop)(Q:Out->Prop)(o:Out):Prop :=
 match o.e with
 | .normal=>∃ e',WkL o.env e'∧J e' o.H
 | _=>Q o
theorem JT.go (hw:WkL env env')(h:J env' H):JT J Q ⟨.normal,env,H⟩:=⟨env',hw,h⟩
theorem JT.ex (h:Q ⟨.exit id,env,H⟩):JT J Q ⟨.exit id,env,H⟩:=h
theorem Old.of {H0 H':IH}(h:Old H0 H)(hs:H.size<=H'.size)(hb:H'.base=H.base)(hk:∀ b,b < H0.size->H'.get b=H.get b):Old H0 H' :=
 ⟨zQM h.size hs,hb.trans h.base,fun b hb'=>(hk b hb').trans (h.get b hb')⟩
end Go.Idl
namespace Go.Idl
variable {P:Program}
theorem Grown.read {st:TypeId}{el:TypeId}(he:El P st el){H:IH}{lo:Nat}{v:Value}{vs:List Value}(h:Grown H el lo v vs){i:Nat}{x:Value}(hi:vs[i]?=some x){k:IntKind} :
 ∃ p,kN P st v (.int k (i:Nat))=some p∧kV P el p H=some x:=by
 have hlt:=(zP4.1 hi).1
 rcases h with ⟨rfl,rfl⟩ | ⟨b,h1,h2,rfl,h3⟩
 ·simp at hlt
 ·refine⟨_,qBI he.und he.sz (zUO i) (Int.ofNat_lt.2 hlt),?_⟩;simp only[zQ4];refine qQP he.ag ?_;unfold IH.load;rw[h3];simpa using hi
end Go.Idl
namespace Go.Idl
variable {P:Program}
end Go.Idl
namespace Go.Idl
variable {P:Program}{good:FuncId->Bool}{nat:xJ}{G:Nat->Bool}{rd:Bool}
theorem q2H.one {H:IH}{el:TypeId}{lo hi:Nat}{rows:List Value}{zss:List (List Int)}(h:q2H H el lo hi rows zss):rows.all oneCell=true:=by
 rw[zP1];intro r hr;obtain⟨i,hi'⟩:=zT4.1 hr;have hlt:=(zP4.1 hi').1;have hz:zss[i]?=some (zss[i]'(by rw[<-h.1];exact hlt)):=zP2 _;rcases h.2 i r _ hi' hz with ⟨_,rfl⟩ | ⟨b,sp,cap,fz,_,_,_,rfl,_⟩ <;> rfl
end Go.Idl
namespace Go.Idl
variable {P:Program}
end Go.Idl
namespace Go.Idl
variable {P:Program}
variable {H:IH}{el:TypeId}{lo:Nat}{v:Value}{zs:List Int}
def OwnAt (H:IH)(el:TypeId)(lo:Nat)(v:Value)(zs:List Int):Prop :=
 ∃ b sp fz,lo<=b∧b < H.size∧v=.slice (some ⟨b,0,sp⟩) zs.length zs.length∧H.get b=some (.cells (zs.map (Value.int .i64)).toArray el fz)∧bK fz=true
theorem OwnAt.len (h:OwnAt H el lo v zs):∃ a,v=.slice a zs.length zs.length:=by
 obtain⟨b',sp,fz,h1,h2,rfl,h3,h4⟩:=h;exact⟨_,rfl⟩
theorem Grown.own {H:IH}{el:TypeId}{lo:Nat}{v:Value}{zs:List Int}(h:Grown H el lo v (zs.map (Value.int .i64)))(hne:zs≠[]):OwnAt H el lo v zs:=by
 rcases h with ⟨h1,_⟩ | ⟨b,h1,h2,rfl,h3⟩
 ·simp at h1;exact absurd h1 hne
 ·exact⟨b,some el,zJ,h1,h2,by rw[zP5],h3,rfl⟩
theorem OwnAt.read {st:TypeId}(he:El P st el)(h:OwnAt H el lo v zs){i:Nat}{x:Int}(hi:zs[i]?=some x){k:IntKind} :
 ∃ p,kN P st v (.int k (i:Nat))=some p∧kV P el p H=some (.int .i64 x):=by
 obtain⟨b,sp,fz,h1,h2,rfl,h3,h4⟩:=h;refine⟨_,qBI he.und he.sz (zUO i) (Int.ofNat_lt.2 (zP4.1 hi).1),?_⟩;simp only[zQ4,zQI];exact qQP he.ag (q2C h3 hi)
end Go.Idl
namespace Go.Idl
variable {P:Program}{good:FuncId->Bool}{nat:xJ}{G:Nat->Bool}{rd:Bool}
def Keeps (H H':IH):Prop:=∀ b o,H.get b=some o->H'.get b=some o
theorem Keeps.refl (H:IH):Keeps H H:=fun _ _ h=>h
theorem Keeps.trans {H H1 H2:IH}(a:Keeps H H1)(b:Keeps H1 H2):Keeps H H2:=fun x o h=>b x o (a x o h)
end Go.Idl
namespace Go.Idl
variable {P:Program}{good:FuncId->Bool}{nat:xJ}{G:Nat->Bool}{rd:Bool}
def q5S (P:Program)(ops:Array Oper)(i:Nat)(e:Env)(E:IH):Prop :=
 match ops[i]? with
 | some o=>(match o.op,o.dst with
   | .load t x,some d=>kV P t (e.val x) E=some (e.at d)
   | _,_=>False)
 | none=>False
def qMM (P:Program)(ops:Array Oper)(e:Env)(hs:List IH):List (Nat×Nat×Nat)->Prop
 | []=>True
 | p::r=>(∀ m E,p.2.1<=m->m<=p.2.2->hs[m]?=some E->q5S P ops p.1 e E)∧qMM P ops e hs r
theorem qMM.mem {ops:Array Oper}{e:Env}{hs:List IH}:∀ {lo:List (Nat×Nat×Nat)},qMM P ops e hs lo->∀ p∈lo,∀ m E,p.2.1<=m->m<=p.2.2->hs[m]?=some E->q5S P ops p.1 e E
 | q::r,h,p,hp=>by
   rcases zQK.1 hp with rfl | hp
   ·exact h.1
   ·exact h.2.mem p hp
end Go.Idl
namespace Go.Idl
variable {P:Program}
end Go.Idl
namespace Go.Idl
variable {P:Program}{good:FuncId->Bool}{nat:xJ}{G:Nat->Bool}{rd:Bool}
variable {H:IH}{Q:Value×IH->Prop}{args:List Value}{env:Env}
open Classical in
noncomputable def qM7 (l0:Nat)(zMN:List Value)(H0:IH)(Q0:Value×IH->Prop):Nat->List Value->IH->T (Value×IH):=fun l args H=>if l=l0∧args=zMN∧H=H0 then .sp Q0 .ret else .fail
theorem q1Z {l:Nat}:qM7 l args H Q l args H=.sp Q .ret:=by unfold qM7;rw[if_pos ⟨rfl,rfl,rfl⟩]
theorem qTG {l:Nat}(h:qBP P G l args H Q):q47 P G (qM7 l args H Q):=by
 intro l' args' H' Q' hq;unfold qM7 at hq;split at hq
 ·rename_i hc;obtain⟨rfl,rfl,rfl⟩:=hc;exact h.mono fun r hr=>hq r hr
 ·exact hq.elim
theorem qS2 {o:Oper}{f:Operand}{args:Array Operand}{ts:Array TypeId}{l:Nat}(hf:env.val f=.func (.yield l) #[] #[]):yJ P o ⟨.value f,args,ts⟩ env H=some (.round l (jA env.val args.toList) H):=by
 have:fP P ⟨.value f,args,ts⟩ env H=some (.round l (jA env.val args.toList) H):=by
  unfold fP;simp only[hf];rfl
 unfold yJ;rw[this]
theorem qVR {l:Nat}:qLR (qXX (qM7 l args H Q)) nat (some (.round l args H))=.sp Q .ret:=by
 rw[qN4,q1Z];rfl
structure Fr (T:Nat->Prop) (H H':IH):Prop where
 size:H.size<=H'.size
 base:H'.base=H.base
 get:∀ b,b < H.size->¬ T b->H'.get b=H.get b
theorem Fr.refl (T:Nat->Prop)(H:IH):Fr T H H:=⟨zP0 _,rfl,fun _ _ _=>rfl⟩
theorem Fr.trans {T T':Nat->Prop}{H H1 H2:IH}(a:Fr T H H1)(b:Fr T' H1 H2)(ht:∀ x,x < H.size->T' x->T x):Fr T H H2 :=
 ⟨zQM a.size b.size,b.base.trans a.base,fun x hx hn=>(b.get x (zP3 hx a.size) fun h=>hn (ht x hx h)).trans (a.get x hx hn)⟩
theorem Setup.zL3 (s:Setup P good nat G){v:Operand}{ps:Array Tmp}{x y:Code}{H:IH}{Q:Out->Prop}{g:FuncId}{first captured:Array Value}(hv:jC G v=true)(hx:codeOk G true x=true)(hy:codeOk G true y=true)
 (hval:env.val v=.func (.func g) first captured) (hent:entered P g=true)
 (hk:∀ lp:Loop,lp.state=.ready->lp.pending=none->lp.tmps.toList=env->lp.params=ps->lp.assign=x->lp.body=y->∃ Qc,gD P G g (qFR first.toList (.func (.yield H.size) #[] #[]::captured.toList)) (H.push (.loop lp)) Qc ∧
   ∀ r,Qc r->(kW (iex P good nat 2) H.size env r).holds Q):Holds P G rd (.rangeFunc v ps x y) env H Q:=by
 obtain⟨Qc,h1,h2⟩:=hk { state:=.ready,pending:=none,fn:=0,tmps:=env.toArray,params:=ps,assign:=x,body:=y,defers:=0 } rfl rfl rfl rfl rfl rfl;exact s.zL2 hv hx hy hval hent h1 h2
theorem q2P {l:Nat}{r:Value×IH}{lp:Loop}{run:Job->IH->T Out}{Q:Out->Prop}(hg:r.2.get l=some (.loop lp))(hs:lp.state=.ready)(hp:lp.pending=none)(hq:∀ lp',Q ⟨.normal,env,r.2.put l (.loop lp')⟩) :
 (kW run l env r).holds Q:=by
 cases lp;simp only at hs hp;subst hs hp;unfold kW;rw[hg];exact hq _
structure zNX (n:Nat) (H H':IH):Prop where
 size:H.size<=H'.size
 base:H'.base=H.base
 get:∀ b,b < H.size->(b < n∨∀ lp,H.get b≠some (.loop lp))->H'.get b=H.get b
theorem Old.l {H H':IH}(h:Old H H')(n:Nat):zNX n H H':=⟨h.size,h.base,fun b hb _=>h.get b hb⟩
end Go.Idl
