/- The soundness of ideal runs, and rules for their use. Conditions: none. -/
import Derived.Test.YtpnecffgnjijjaaGreatDoorIdlF
set_option linter.all false
namespace Go.Idl
variable {P:Program}{good:FuncId->Bool}{nat:xA}
def q0H:xA:=fun _=>none
theorem qUN:wM q0H:=by intro f k h;cases h
theorem qRB {G:Nat->Bool}:vI P G q0H:=by intro f k h;cases h
end Go.Idl
namespace Go.Idl
variable {P:Program}{good:FuncId->Bool}{nat:xA}
structure Old (H H':IH):Prop where
 size:H.size<=H'.size
 base:H'.base=H.base
 get:∀ b,b < H.size->H'.get b=H.get b
theorem Old.refl (H:IH):Old H H:=⟨zM0 _,rfl,fun _ _=>rfl⟩
theorem Old.trans {H H1 H2:IH}(a:Old H H1)(b:Old H1 H2):Old H H2 :=
 ⟨zNP a.size b.size,b.base.trans a.base,fun x hx=>(b.get x (zM4 hx a.size)).trans (a.get x hx)⟩
theorem Old.push (H:IH)(o:Obj):Old H (H.push o):=⟨by simp,rfl,fun x hx=>by rw[IH.zFK,if_neg (by omega)]⟩
theorem Rel.zKO {f:Inj}{H:IH}{w:World}{r s:Nat}{c:Array Value}{el:TypeId}{fz:Nat×Nat}(hR:Rel P f H w)(hr:w.heap[r]?=some (.cells c el fz))(hro:∀ b e,f b=some e->e.r=r->e.ro=true)
 (cI:Array Value) (elI:TypeId) (hs:s+cI.size<=c.size) (hv:∀ (i:Nat) v,cI[i]?=some v->∃ v',c[s+i]?=some v'∧zFB P f v v') :
 Rel P (f.add H.size ⟨r,s,c.size,true⟩) (H.push (.cells cI elI (0,1))) w∧f.le (f.add H.size ⟨r,s,c.size,true⟩):=by
 have hnone:f H.size=none:=bI hR;have hle:f.le (f.add H.size ⟨r,s,c.size,true⟩):=Inj.zGG hnone;have hlt:r < w.heap.size:=(zNB.1 hr).1;refine⟨⟨?_,?_,?_,?_,?_,?_⟩,hle⟩
 ·intro b e hb;by_cases e1:b=H.size
  ·subst e1;simp
  ·rw[Inj.zFC e1] at hb;have:=hR.dom b e hb;simp;omega
 ·intro b hb;simp only[IH.size_push] at hb;rw[IH.zFK,if_neg (by omega)];exact hR.fresh b (by omega)
 ·intro b e hb;by_cases e1:b=H.size
  ·subst e1;rw[Inj.add_same] at hb;cases hb;exact hlt
  ·rw[Inj.zFC e1] at hb;exact hR.bound b e hb
 ·intro b e o hb ho;by_cases e1:b=H.size
  ·subst e1;rw[Inj.add_same] at hb;cases hb;rw[IH.zFK,if_pos rfl] at ho;cases ho;refine⟨c,el,fz,hr,rfl,hs,fun i v hi=>?_,fun h=>by simp[aZ] at h,fun h=>by simp at h⟩;obtain⟨v',h1,h2⟩:=hv i v hi;exact⟨v',h1,h2.mono hle⟩
  ·rw[Inj.zFC e1] at hb;rw[IH.zFK,if_neg e1] at ho;exact (hR.obj b e o hb ho).mono hle
 ·intro b1 b2 e1 e2 o1 o2 hne h1 h2 g1 g2 l1 l2 hr';by_cases x1:b1=H.size
  ·subst x1;rw[Inj.add_same] at h1;cases h1;rw[Inj.zFC (Ne.symm hne)] at h2;exact⟨rfl,hro b2 e2 h2 hr'.symm⟩
  ·rw[Inj.zFC x1] at h1;by_cases x2:b2=H.size
   ·subst x2;rw[Inj.add_same] at h2;cases h2;exact⟨hro b1 e1 h1 hr',rfl⟩
   ·rw[Inj.zFC x2] at h2;rw[IH.zFK,if_neg x1] at g1;rw[IH.zFK,if_neg x2] at g2;exact hR.sep b1 b2 e1 e2 o1 o2 hne h1 h2 g1 g2 l1 l2 hr'
 ·intro b1 b2 e1 e2 h1 h2 hr';by_cases x1:b1=H.size
  ·subst x1;rw[Inj.add_same] at h1;cases h1;by_cases x2:b2=H.size
   ·subst x2;rw[Inj.add_same] at h2;cases h2;rfl
   ·rw[Inj.zFC x2] at h2;exact (hro b2 e2 h2 hr'.symm).symm
  ·rw[Inj.zFC x1] at h1;by_cases x2:b2=H.size
   ·subst x2;rw[Inj.add_same] at h2;cases h2;exact hro b1 e1 h1 hr'
   ·rw[Inj.zFC x2] at h2;exact hR.zFU b1 b2 e1 e2 h1 h2 hr'
end Go.Idl
namespace Go.Idl
variable {P:Program}{good:FuncId->Bool}{nat:xA}{rd:Bool}
variable {G:Nat->Bool}{H:IH}{c:Code}
def Holds (P:Program)(G:Nat->Bool)(rd:Bool)(c:Code)(env:Env)(H:IH)(Q:Out->Prop):Prop :=
 ∀ (B:Nat) (F:Fence) (f:Inj) (a:Act) (w:World),aV F->zGO rd F w->Rel P f H w->uY G f->qE P f env a.tmps.toList->Marks B f w a.defers->c.wpIn F 0 P (kZ P B f H w Q) a w
structure Setup (P:Program) (good:FuncId->Bool) (nat:xA) (G:Nat->Bool):Prop where
 mix:P.follows .mixedOrders=true
 ext:wM nat
 spec:vI P G nat
 good:qZD P good G
theorem Setup.run (s:Setup P good nat G)(n:Nat){env:Env}{Q:Out->Prop}(hc:codeOk G rd c=true)(h:(iex P good nat n (.code c env) H).holds Q):Holds P G rd c env H Q:=by
 intro B F f a w hF hr hR hG zFI hm;exact (qJ5 s.ext s.spec s.good (fun _ _ hc hr=>qDP s.mix hc hr) n).1 B F rd c env H f a w Q hF hr hR hG (qO hG _ _ hc) zFI hm h
theorem qRJ {g:FuncId}{fn:Func}{args args':List Value}{f:Inj}{w:World}{Q:Value×IH->Prop}(hfn:P.funcs[g]?=some fn)(hb:fn.body=some c)
 (hR:Rel P f H w) (hG:uY G f) (ha:qE P f args args')
 (h:Holds P G false c (args++List.replicate (fn.ntmps - args.length) undef) H fun o=>(o.e=.normal∨o.e=.ret)∧∃ v,vZ P fn o.env o.H=some v∧Q (v,o.H)):CallsIn Fence.wide 0 P g args'.toArray w (Comes P f H w Q):=by
 have zFI:qE P f (args++List.replicate (fn.ntmps - args.length) undef) (args'.toArray++Array.replicate (fn.ntmps - args'.toArray.size) undef).toList:=by
  have e1:(args'.toArray++Array.replicate (fn.ntmps - args'.toArray.size) undef).toList=args'++List.replicate (fn.ntmps - args.length) undef:=by simp[ha.1]
  rw[e1];refine ha.append ?_
  have key:∀ n,qE P f (List.replicate n undef) (List.replicate n undef):=by
   intro n
   induction n with
   | zero=>exact .nil
   | succ n ih=>exact .cons .undef ih
  exact key _
 refine callsIn_of_wp_marks hfn hb trivial (wpIn_mono (h w.heap.size Fence.wide f _ w qKB (.none rfl) hR hG zFI (zM0 _)) ?_);rintro e a' w' ⟨o,f',⟨he,v,hv,hq⟩,rfl,k1,k2,k3,k4⟩
 have done:LeavesInM Fence.wide 0 P fn a'.tmps (Comes P f H w Q) a'.defers .returning w':=by
  refine aQ a'.defers w' k1 k4 fun w2 hR2 hsame hsz hot=>?_
  obtain⟨v',h3,h4⟩:=mY (fn:=fn) k3 hR2 hv;refine⟨v',h3,v',(v,o.H),f',rfl,hq,hR2,⟨k2.zF7,k2.stay,k2.le,by rw[hsz];exact k2.size,fun r hr ho=>?_,k2.un,⟨hot.1.trans k2.out.1,hot.2.1.trans k2.out.2.1,hot.2.2.trans k2.out.2.2⟩,fun r h=>⟨(k2.lps r h).choose,(hsame r (fun d hd=>oQ _ k4 r h.lt d hd)).trans (k2.lps r h).choose_spec⟩⟩,h4⟩;obtain⟨q1,q2⟩:=k2.keep r hr ho;exact⟨q1,by rw[hsame r (fun d hd=>oQ _ k4 r hr d hd)];exact q2⟩
 rcases he with he | he
 ·rw[he];exact done
 ·rw[he];exact done
noncomputable def q5O (l:List (Nat×Obj)):Tr Obj:=List.rec .nil (fun p _ ih=>ih.set p.1 p.2) l
noncomputable def q8Z (l:List (Nat×Obj))(n:Nat):IH:=⟨q5O l,n,0,[]⟩
end Go.Idl
namespace Go.Idl
variable {P:Program}{good:FuncId->Bool}{nat:xA}{G:Nat->Bool}{rd:Bool}
variable {H:IH}{Q:Out->Prop}{env:Env}{x y:Code}
theorem Holds.mono {c:Code}{Q':Out->Prop}(h:Holds P G rd c env H Q)(hq:∀ o,Q o->Q' o):Holds P G rd c env H Q':=by
 intro B F f a w hF hr hR hG zFI hm;exact wpIn_mono (h B F f a w hF hr hR hG zFI hm) fun e a w=>jT (.refl _ _ _) hq
theorem Holds.zLQ {Q1:Out->Prop}(hx:Holds P G rd x env H Q1)(hy:∀ o,Q1 o->o.e=.normal->Holds P G rd y o.env o.H Q)(ho:∀ o,Q1 o->o.e≠.normal->Q o):Holds P G rd (.seq x y) env H Q:=by
 intro B F f a w hF hr hR hG zFI hm;refine wpIn_seq (wpIn_mono (hx B F f a w hF hr hR hG zFI hm) ?_);rintro e a' w' ⟨o,f',hq,rfl,h1,h2,h3,h4⟩
 cases he:o.e with
 | normal=>exact wpIn_mono (hy o hq he B F f' a' w' hF (hr.mono h2.lps) h1 (hG.mono h2.le) h3 h4) fun e a w=>jT h2 fun _ h=>h
 | exit id=>exact⟨o,f',ho o hq (by rw[he];simp),by rw[he],h1,h2,h3,h4⟩
 | goto l=>exact⟨o,f',ho o hq (by rw[he];simp),by rw[he],h1,h2,h3,h4⟩
 | ret=>exact⟨o,f',ho o hq (by rw[he];simp),by rw[he],h1,h2,h3,h4⟩
theorem Holds.cond {v:Operand}{t:Bool}(hok:kR G v=true)(hv:env.val v=.bool t)(hx:t=true->Holds P G rd x env H Q)(hy:t=false->Holds P G rd y env H Q):Holds P G rd (.cond v x y) env H Q:=by
 intro B F f a w hF hr hR hG zFI hm;have hev:=nE zFI (jI hG hok);rw[hv] at hev;refine wpIn_cond (t:=t) hev.zHG ?_
 cases t with
 | true=>exact hx rfl B F f a w hF hr hR hG zFI hm
 | false=>exact hy rfl B F f a w hF hr hR hG zFI hm
def qUV (id:Nat)(Q:Out->Prop)(o:Out):Prop :=
 match o.e with
 | .exit id'=>if id'=id then Q ⟨.normal,o.env,o.H⟩ else Q o
 | _=>Q o
theorem Holds.block {id:Nat}(hx:Holds P G rd x env H (qUV id Q)):Holds P G rd (.block id x) env H Q:=by
 intro B F f a w hF hr hR hG zFI hm;refine wpIn_block (wpIn_mono (hx B F f a w hF hr hR hG zFI hm) ?_);rintro e a' w' ⟨o,f',hq,rfl,h1,h2,h3,h4⟩;unfold qUV at hq
 cases he:o.e with
 | normal=>rw[he] at hq;exact⟨o,f',hq,by rw[he],h1,h2,h3,h4⟩
 | exit id' =>
   rw[he] at hq;simp only[qH4,Exit.inBlock];simp only at hq;by_cases hid:id'=id
   ·rw[if_pos hid];rw[if_pos hid] at hq;exact⟨⟨.normal,o.env,o.H⟩,f',hq,rfl,h1,h2,h3,h4⟩
   ·rw[if_neg hid];rw[if_neg hid] at hq;exact⟨o,f',hq,by rw[he];rfl,h1,h2,h3,h4⟩
 | goto l=>rw[he] at hq;exact⟨o,f',hq,by rw[he],h1,h2,h3,h4⟩
 | ret=>rw[he] at hq;exact⟨o,f',hq,by rw[he],h1,h2,h3,h4⟩
theorem Holds.skip (h:Q ⟨.normal,env,H⟩):Holds P G rd .skip env H Q:=by
 intro B F f a w hF hr hR hG zFI hm;exact wpIn_skip (vG (e:=.normal) hR zFI hm h)
theorem Holds.label {l:Nat}(h:Q ⟨.normal,env,H⟩):Holds P G rd (.label l) env H Q:=by
 intro B F f a w hF hr hR hG zFI hm;exact wpIn_label (vG (e:=.normal) hR zFI hm h)
theorem Holds.ret {env:Env}{H:IH}{Q:Out->Prop}(h:Q ⟨.ret,env,H⟩):Holds P G rd .ret env H Q:=by
 intro B F f a w hF hr hR hG zFI hm;exact wpIn_ret (vG (e:=.ret) hR zFI hm h)
theorem Holds.exit {id:Nat}{env:Env}{H:IH}{Q:Out->Prop}(h:Q ⟨.exit id,env,H⟩):Holds P G rd (.exit id) env H Q:=by
 intro B F f a w hF hr hR hG zFI hm;exact wpIn_exit (vG (e:=.exit id) hR zFI hm h)
theorem Holds.scope (hx:Holds P G rd x env H fun o=>(∀ l,o.e≠.goto l)∧Q o):Holds P G rd (.scope x) env H Q:=by
 intro B F f a w hF hr hR hG zFI hm;refine wG (wpIn_mono (hx B F f a w hF hr hR hG zFI hm) ?_);rintro e a' w' ⟨o,f',⟨hn,hq⟩,rfl,h1,h2,h3,h4⟩
 cases he:o.e with
 | normal=>exact⟨o,f',hq,by rw[he],h1,h2,h3,h4⟩
 | exit id=>exact⟨o,f',hq,by rw[he],h1,h2,h3,h4⟩
 | goto l=>exact absurd he (hn l)
 | ret=>exact⟨o,f',hq,by rw[he],h1,h2,h3,h4⟩
theorem Holds.loop (I:Nat->Env->IH->Prop)
 (hx:∀ n env H,I n env H->Holds P G rd x env H fun o=>match o.e with
   | .normal=>∃ m,m < n∧I m o.env o.H
   | _=>Q o) {n:Nat} {env:Env} {H:IH} (h:I n env H):Holds P G rd (.loop x) env H Q:=by
 intro B F f a w hF hr hR hG zFI hm
 let J:Act->World->Nat->Prop:=fun a1 w1 m=>∃ zFG H1 f1,I m zFG H1∧Rel P f1 H1 w1∧Grow f H w f1 H1 w1∧qE P f1 zFG a1.tmps.toList∧Marks B f1 w1 a1.defers
 refine wpIn_loop (fun a1 w1=>∃ m,J a1 w1 m) (fun a1 w1=>least (J a1 w1)) ⟨n,env,H,f,h,hR,.refl _ _ _,zFI,hm⟩ ?_;intro a1 w1 hI;obtain⟨⟨zFG,H1,f1,hi,r1,g1,v1,m1⟩,hmin⟩:=bN hI;generalize hm0:least (J a1 w1)=m at *;refine wpIn_mono (hx m zFG H1 hi B F f1 a1 w1 hF (hr.mono g1.lps) r1 (hG.mono g1.le) v1 m1) ?_;rintro e a2 w2 ⟨o,f2,hq,rfl,k1,k2,k3,k4⟩
 cases he:o.e with
 | normal =>
   rw[he] at hq;obtain⟨m',hlt,hi'⟩:=hq
   have hJ:J a2 w2 m':=⟨o.env,o.H,f2,hi',k1,g1.trans k2,k3,k4⟩
   exact⟨⟨m',hJ⟩,by have:=(bN ⟨m',hJ⟩).2 m' hJ;show least (J a2 w2) < _;omega⟩
 | exit id=>rw[he] at hq;exact⟨o,f2,hq,by rw[he],k1,g1.trans k2,k3,k4⟩
 | goto l=>rw[he] at hq;exact⟨o,f2,hq,by rw[he],k1,g1.trans k2,k3,k4⟩
 | ret=>rw[he] at hq;exact⟨o,f2,hq,by rw[he],k1,g1.trans k2,k3,k4⟩
end Go.Idl
namespace Go.Idl
variable {P:Program}{good:FuncId->Bool}{nat:xA}{G:Nat->Bool}{rd:Bool}
theorem Rel.same {f:Inj}{H:IH}{w w':World}(h:Rel P f H w)(hs:w.heap.size<=w'.heap.size)(hw:∀ r,r < w.heap.size->w'.heap[r]?=w.heap[r]?)(hout:w'.os=w.os∧w'.output=w.output∧w'.tape=w.tape):Rel P f H w'∧Grow f H w f H w' :=
 ⟨⟨h.dom,h.fresh,fun b e hb=>zM4 (h.bound b e hb) hs,fun b e o hb ho=>by rw[hw _ (h.bound b e hb)];exact h.obj b e o hb ho,h.sep,h.zFU⟩,
   ⟨zM0 _,fun _ _ h=>h,f.le_refl,hs,fun r hr ho=>⟨ho,hw r hr⟩,fun _ _ h=>h,hout,fun r h=>⟨h.choose,(hw r h.lt).trans h.choose_spec⟩⟩⟩
def eX (n:Nat):Inj:=fun g=>cond (Nat.blt g n) (some ⟨g,0,zAK g,true⟩) none
def qW (n:Nat):Nat->Bool:=fun g=>Nat.blt g n
theorem yT {n g:Nat}{e:Emb}(h:eX n g=some e):g < n∧e=⟨g,0,zAK g,true⟩:=by
 unfold eX at h
 cases hb:Nat.blt g n with
 | false=>rw[hb] at h;cases h
 | true=>rw[hb] at h;cases h;exact⟨zM9 hb,rfl⟩
theorem qJT (n:Nat):uY (qW n) (eX n):=by
 intro g hg;have hg':Nat.blt g n=true:=hg;rw[dK];exact⟨⟨g,0,zAK g,true⟩,by unfold eX;rw[hg'];rfl,rfl,rfl,zBT g⟩
end Go.Idl
namespace Go.Idl
variable {P:Program}{good:FuncId->Bool}{nat:xA}{rd:Bool}
section
variable {o:Oper}{t:TypeId}{k:IntKind}{a b:Int}{env:Env}{H:IH}
theorem q48 {op:BinOp}{v:Value}(h:dS op k a b=some v):yS P o op t (.int k a) (.int k b) env H=some (.val v H):=by
 unfold yS zF0 asI;simp only[qW5,cond_true,h]
end
noncomputable def enters (P:Program)(g:FuncId):Bool:=match P.funcs[g]? with
 | some fn=>fn.body.isSome&&(fn.name != "runtime.NumGoroutine")
 | none=>false
theorem qII {o:Oper}{f:Operand}{args:Array Operand}{ts:Array TypeId}{env:Env}{H:IH}{g:FuncId}{first captured:Array Value}(hf:env.val f=.func (.func g) first captured)(he:enters P g=true) :
 yI P o ⟨.value f,args,ts⟩ env H=some (.enter g (qEO first.toList (qEO (kP env.val args.toList) captured.toList)) H):=by
 have:fG P ⟨.value f,args,ts⟩ env H=some (.enter g (qEO first.toList (qEO (kP env.val args.toList) captured.toList)) H):=by
  unfold enters at he;unfold fG;simp only[hf];split at he
  ·rename_i fn hfn;simp only[zMY] at he;simp only[hfn,he.1,he.2,if_true]
  ·cases he
 unfold yI;rw[this]
end Go.Idl
namespace Go.Idl
variable {P:Program}{good:FuncId->Bool}{nat:xA}{G:Nat->Bool}{rd:Bool}
noncomputable def zAS (w:Bool):Option Value->Option Bool
 | some v=>qV6 w v
 | none=>none
noncomputable def qRS (w:Bool)(env:Env):Option Tmp->Option Bool
 | some t=>zAS w (zJ env t)
 | none=>some false
theorem qSG {ops:Array Oper}{d:Option Tmp}{op:Op}{ty:TypeId}{p:String}{a:Array Edge}{env:Env}{j:Nat}{w:Bool} :
 kH ops ⟨d,op,ty,p,a,some (j,w)⟩ env=qRS w env ((ops[j]?).bind (·.dst)):=by
 unfold kH qRS;simp only;split
 ·rename_i t ht;simp only[ht];rfl
 ·rename_i ht;simp only[ht]
end Go.Idl
namespace Go.Idl
end Go.Idl
namespace Go.Idl
variable {P:Program}{good:FuncId->Bool}{nat:xA}{G:Nat->Bool}{rd:Bool}
noncomputable def qQ9 (ds:List (Option Tmp))(j:Nat):Option Tmp:=match ds[j]? with
 | some d=>d
 | none=>none
noncomputable def qOR (ds:List (Option Tmp))(o:Oper)(env:Env):Option Bool:=match o.guard with
 | none=>some true
 | some (j,w)=>qRS w env (qQ9 ds j)
theorem qM3 (ops:Array Oper)(o:Oper)(env:Env):kH ops o env=qOR (ops.toList.map (·.dst)) o env:=by
 obtain⟨d,op,ty,p,a,g⟩:=o
 cases g with
 | none=>rfl
 | some jw =>
   obtain⟨j,w⟩:=jw;rw[qSG];show qRS w env _=qRS w env _
   congr 1
   unfold qQ9;rw[zNC];have:ops.toList[j]?=ops[j]?:=by simp
   rw[this];cases ops[j]? <;> rfl
end Go.Idl
namespace Go.Idl
variable {P:Program}{good:FuncId->Bool}{nat:xA}{G:Nat->Bool}{rd:Bool}
end Go.Idl
namespace Go.Idl
end Go.Idl
namespace Go.Idl
variable {P:Program}
end Go.Idl
namespace Go.Idl
variable {P:Program}{good:FuncId->Bool}{nat:xA}{G:Nat->Bool}{rd:Bool}
end Go.Idl
namespace Go.Idl
variable {P:Program}{good:FuncId->Bool}{nat:xA}{G:Nat->Bool}{rd:Bool}
end Go.Idl
namespace Go.Idl
end Go.Idl
namespace Go.Idl
variable {P:Program}
def pE (f:Inj):Prop:=∀ b e,f b=some e->e.ro=true
theorem pE.add {f:Inj}{b:Nat}{e:Emb}(h:pE f)(he:e.ro=true):pE (f.add b e):=by
 intro x y hx;by_cases e1:x=b
 ·subst e1;rw[Inj.add_same] at hx;cases hx;exact he
 ·rw[Inj.zFC e1] at hx;exact h x y hx
theorem Rel.zIQ {f:Inj}{H:IH}{w:World}(hR:Rel P f H w)(hro:pE f)(h0:0 < w.heap.size):Rel P (f.add H.size ⟨0,1,0,true⟩) (H.push xB) w∧f.le (f.add H.size ⟨0,1,0,true⟩):=by
 have hnone:f H.size=none:=bI hR;have hle:f.le (f.add H.size ⟨0,1,0,true⟩):=Inj.zGG hnone;have zJE:pE (f.add H.size ⟨0,1,0,true⟩):=hro.add rfl;refine⟨⟨?_,?_,?_,?_,?_,?_⟩,hle⟩
 ·intro b e hb;by_cases e1:b=H.size
  ·subst e1;simp
  ·rw[Inj.zFC e1] at hb;have:=hR.dom b e hb;simp;omega
 ·intro b hb;simp only[IH.size_push] at hb;rw[IH.zFK,if_neg (by omega)];exact hR.fresh b (by omega)
 ·intro b e hb;by_cases e1:b=H.size
  ·subst e1;rw[Inj.add_same] at hb;cases hb;exact h0
  ·rw[Inj.zFC e1] at hb;exact hR.bound b e hb
 ·intro b e o hb ho;by_cases e1:b=H.size
  ·subst e1;rw[IH.zFK,if_pos rfl] at ho;cases ho;exact trivial
  ·rw[Inj.zFC e1] at hb;rw[IH.zFK,if_neg e1] at ho;exact (hR.obj b e o hb ho).mono hle
 ·intro b1 b2 e1 e2 o1 o2 _ h1 h2 _ _ _ _ _;exact⟨zJE b1 e1 h1,zJE b2 e2 h2⟩
 ·intro b1 b2 e1 e2 h1 h2 _;rw[zJE b1 e1 h1,zJE b2 e2 h2]
theorem qRE {w:World}{a:Addr}{v:Value}(h:w.cell? a=some v):a.spot=none∧∃ c el fz,w.heap[a.block]?=some (.cells c el fz)∧c[a.off]?=some v:=by
 unfold World.cell? at h;split at h
 ·rename_i c el fz hc;split at h
  ·cases h
  ·rename_i hs;exact⟨by simpa using hs,c,el,fz,hc,h⟩
 ·cases h
theorem qVN {w:World}{a:Addr}{v:Value}{c:Array Value}{el:TypeId}{fz:Nat×Nat}{i:Nat}(hb:w.heap[a.block]?=some (.cells c el fz))(hs:a.spot=none)(h:w.cell? (a.add i)=some v):c[a.off+i]?=some v:=by
 unfold Addr.add at h;by_cases hi:i=0
 ·subst hi;rw[if_pos rfl] at h;unfold World.cell? at h;rw[hb] at h;simpa [hs] using h
 ·rw[if_neg hi] at h;unfold World.cell? at h;simpa [hb] using h
theorem q95 {f:Inj}{H:IH}{w:World}(hR:Rel P f H w)(hro:pE f){a:Addr}{L C:Nat}(hLC:L<=C)(hC:0 < C)(us:List Value)(hus:us.length=L)(V:Nat->Value)(hcell:∀ i,i < C->w.cell? (a.add i)=some (V i))
 (hv:∀ i u,us[i]?=some u->zFB P f u (V i)):∃ el,Rel P (f.add H.size ⟨a.block,a.off,(match w.heap[a.block]? with | some (.cells c _ _)=>c.size | _=>0),true⟩) (H.push (.cells us.toArray el (0,1))) w ∧
   f.le (f.add H.size ⟨a.block,a.off,(match w.heap[a.block]? with | some (.cells c _ _)=>c.size | _=>0),true⟩)∧a.spot=none:=by
 have h0:=hcell 0 hC;have e0:a.add 0=a:=by simp[Addr.add]
 rw[e0] at h0;obtain⟨hs,c,el,fz,hb,hc0⟩:=qRE h0
 have hsize:a.off+us.toArray.size<=c.size:=by
  simp only[zPN,hus];by_cases hL:L=0
  ·have:=(zNB.1 hc0).1;omega
  ·have:=(zNB.1 (qVN hb hs (hcell (L - 1) (by omega)))).1;omega
 have:=hR.zKO (r:=a.block) (s:=a.off) hb (fun b e hbe _=>hro b e hbe) us.toArray el hsize fun i v hi=>by
  have hi':us[i]?=some v:=by simpa using hi
  have hlt:i < L:=by rw[<-hus];exact (zM6.1 hi').1
  exact⟨V i,qVN hb hs (hcell i (by omega)),hv i v hi'⟩
 refine⟨el,?_,?_,hs⟩
 ·simp only[hb];exact this.1
 ·simp only[hb];exact this.2
end Go.Idl
namespace Go.Idl
variable {P:Program}
end Go.Idl
namespace Go.Idl
variable {P:Program}{good:FuncId->Bool}{nat:xA}{G:Nat->Bool}{rd:Bool}
variable {H:IH}{Q:Value×IH->Prop}{args:List Value}{g:FuncId}{l:Nat}
inductive WkL:List Value->List Value->Prop
 | nil:WkL [] []
 | same {v:Value} {l m:List Value} (h:WkL l m):WkL (v::l) (v::m)
 | any {v:Value} {l m:List Value} (h:WkL l m):WkL (v::l) (unk::m)
theorem WkL.trans {a b c:List Value}(h:WkL a b):WkL b c->WkL a c:=by
 induction h generalizing c with
 | nil=>exact fun h=>h
 | same _ ih =>
   intro k
   cases k with
   | same k=>exact .same (ih k)
   | any k=>exact .any (ih k)
 | any _ ih =>
   intro k
   cases k with
   | same k=>exact .any (ih k)
   | any k=>exact .any (ih k)
def Wk (R:Env->IH->Prop):Env->IH->Prop:=fun e h=>∃ e',WkL e e'∧R e' h
open Classical in
noncomputable def ofS {α:Type}(pre:α->List Value->IH->Prop)(post:α->IH->Value->IH->Prop):List Value->IH->T (Value×IH):=fun args H =>
 if h:∃ x,pre x args H then .sp (fun r=>post (Classical.choose h) H r.1 r.2) .ret else .fail
noncomputable def zG4 (nat:xA)(g:FuncId){α:Type}(pre:α->List Value->IH->Prop)(post:α->IH->Value->IH->Prop):xA:=fun x=>cond (Nat.beq x g) (some (ofS pre post)) (nat x)
theorem q87 {α:Type}{pre:α->List Value->IH->Prop}{post:α->IH->Value->IH->Prop}(uniq:∀ x y args H,pre x args H->pre y args H->x=y){x:α}{args:List Value}{H:IH}(hx:pre x args H) :
 ofS pre post args H=.sp (fun r=>post x H r.1 r.2) .ret:=by
 have h:∃ x,pre x args H:=⟨x,hx⟩
 unfold ofS;rw[dif_pos h,uniq _ _ _ _ (Classical.choose_spec h) hx]
theorem q1J {α:Type}{pre:α->List Value->IH->Prop}{post:α->IH->Value->IH->Prop}(hn:wM nat):wM (zG4 nat g pre post):=by
 intro x y h args H;unfold zG4 at h
 cases hb:Nat.beq x g with
 | false=>rw[hb] at h;exact hn x y h args H
 | true =>
   rw[hb] at h;cases h;unfold ofS;split
   ·exact trivial
   ·exact trivial
def gP (P:Program)(G:Nat->Bool)(g:FuncId)(args:List Value)(H:IH)(Q:Value×IH->Prop):Prop :=
 ∀ (args':List Value) (f:Inj) (w:World),Rel P f H w->uY G f->qE P f args args'->CallsIn Fence.wide 0 P g args'.toArray w (Comes P f H w Q)
theorem gP.mono {g:FuncId}{args:List Value}{H:IH}{Q Q':Value×IH->Prop}(h:gP P G g args H Q)(hq:∀ r,Q r->Q' r):gP P G g args H Q':=by
 intro args' f w hR hG ha;refine CallsIn.mono (h args' f w hR hG ha) ?_;rintro e w' ⟨v',r,f',k0,k1,k2,k3,k4⟩;exact⟨v',r,f',k0,hq r k1,k2,k3,k4⟩
theorem gP.of {fn:Func}{c:Code}{N:Nat}(hfn:P.funcs[g]?=some fn)(hb:fn.body=some c)(hN:fn.ntmps=N)
 (h:Holds P G false c (args++List.replicate (N - args.length) undef) H fun o=>(o.e=.normal∨o.e=.ret)∧∃ v,vZ P fn o.env o.H=some v∧Q (v,o.H)):gP P G g args H Q:=by
 subst hN;exact fun args' f w hR hG ha=>qRJ hfn hb hR hG ha h
theorem Setup.zG4 (s:Setup P good nat G){g:FuncId}{α:Type}(pre:α->List Value->IH->Prop)(post:α->IH->Value->IH->Prop)
 (hk:∀ x args H,pre x args H->gP P G g args H fun r=>post x H r.1 r.2):Setup P good (Go.Idl.zG4 nat g pre post) G:=by
 refine⟨s.mix,q1J s.ext,?_,s.good⟩;intro x y h args args' H f w Q hR hG ha hq;unfold Go.Idl.zG4 at h
 cases hbx:Nat.beq x g with
 | false=>rw[hbx] at h;exact s.spec x y h args args' H f w Q hR hG ha hq
 | true =>
   rw[hbx] at h;have hx:x=g:=zMZ hbx;subst hx;cases h;unfold ofS at hq;split at hq
   ·rename_i he;exact (hk _ args H (Classical.choose_spec he)).mono (fun r hr=>hq r hr) args' f w hR hG ha
   ·exact hq.elim
def qAI (P:Program)(G:Nat->Bool)(l:Nat)(args:List Value)(H:IH)(Q:Value×IH->Prop):Prop :=
 ∀ (args':List Value) (f:Inj) (w:World) (e:Emb),Rel P f H w->uY G f->f l=some e->qE P f args args' ->
  ∃ fn tmps assign body,(Instr.yield e.r args'.toArray).run P w=.ok (.round e.r fn tmps assign body) w∧RoundIn Fence.wide 0 P e.r fn tmps assign body w (Comes P f H w Q)
theorem qAI.mono {l:Nat}{args:List Value}{H:IH}{Q Q':Value×IH->Prop}(h:qAI P G l args H Q)(hq:∀ r,Q r->Q' r):qAI P G l args H Q':=by
 intro args' f w e hR hG he ha;obtain⟨fn,tmps,assign,body,h1,h2⟩:=h args' f w e hR hG he ha;refine⟨fn,tmps,assign,body,h1,RoundIn.mono h2 ?_⟩;rintro e w' ⟨v',r,f',k0,k1,k2,k3,k4⟩;exact⟨v',r,f',k0,hq r k1,k2,k3,k4⟩
noncomputable def qVC (rk:Nat->List Value->IH->T (Value×IH)):Job->IH->T Out
 | .round l args,H=>(rk l args H).bind fun r=>.ret ⟨.normal,[r.1],r.2⟩
 | _,_=>.fail
def q3A (P:Program)(G:Nat->Bool)(rk:Nat->List Value->IH->T (Value×IH)):Prop:=∀ l args H Q,(rk l args H).holds Q->qAI P G l args H Q
theorem q8F {t:T (Value×IH)}(h:((t.bind fun r=>(.ret ⟨.normal,[r.1],r.2⟩:T Out)).bind wO).holds Q):t.holds Q:=by
 rw[T.zFL,T.zFL] at h;exact T.zFM (fun r hr=>hr) _ h
theorem q1I {rk:Nat->List Value->IH->T (Value×IH)}(h:q3A P G rk):kS P G (qVC rk):=by
 intro l args args' H f w e Q hR hG he ha hq;exact h l args H Q (q8F hq) args' f w e hR hG he ha
theorem qNP {rk:Nat->List Value->IH->T (Value×IH)}:qIE (qVC rk) nat (some (.round l args H))=((rk l args H).bind fun r=>(.ret ⟨.normal,[r.1],r.2⟩:T Out)).bind wO:=rfl
theorem qS9 {lp:Loop}(hg:H.get l=some (.loop lp))(hst:lp.state=.ready)(hlen:args.length=lp.params.size)
 (hb:Holds P G true lp.assign ((lp.params.toList.zip args).foldl (fun e p=>yQ e p.1 p.2) lp.tmps.toList) H fun o=>o.e=.normal∧∃ lp1,o.H.get l=some (.loop lp1)∧lp1.state=.ready ∧
   Holds P G true lp.body o.env (o.H.put l (.loop { lp1 with state:=.busy })) fun s=>∃ lp2,s.H.get l=some (.loop lp2) ∧
    Q (.bool (yU s.e).isNone,s.H.put l (.loop { lp2 with state:=if (yU s.e).isNone then .ready else .done,pending:=yU s.e }))):qAI P G l args H Q:=by
 intro args' f w e hR hG he ha;obtain⟨hro,lp',h1,g1,g2,g3,g4,g5,g6,g7,g8,g9,g10⟩:=vY hR he hg;refine⟨lp'.fn,_,lp'.assign,lp'.body,run_yield h1 (by rw[g3,<-hlen,ha.1];simp),?_⟩
 have zFI:qE P f ((lp.params.toList.zip args).foldl (fun e p=>yQ e p.1 p.2) lp.tmps.toList) ((lp'.params.zip args'.toArray).foldl (fun tmps (t,a)=>tmps.setIfInBounds t a) lp'.tmps).toList:=by
  rw[<-zPF,Array.toList_zip];have:=qG3 (lp'.params.toList.zip args') lp'.tmps;simp only[] at this ⊢;rw[this,g3];exact qFI lp.params.toList args args' _ _ ha g6
 refine roundIn_of_wpIn (F:=Fence.wide) trivial ?_;rw[g4,g5];refine wpIn_mono (hb w.heap.size (Fence.wide.inRound e.r) f _ w (bT _) ⟨rfl,fun l h=>by have:=zN0 h;subst this;exact⟨_,h1⟩⟩ hR hG zFI (zM0 _)) ?_;rintro ex a1 w1 ⟨o,f1,⟨heo,lp1,hg1,zJD,hq⟩,rfl,k1,k2,k3,k4⟩;rw[heo];have he1:=k2.le _ _ he;obtain⟨_,zIM,q1,q2,q3,q4,q5,q6,q7,q8,q9,q10,q11⟩:=vY k1 he1 hg1;refine⟨_,run_beginRound q1 (by rw[q2,zJD]),?_⟩;obtain⟨p1,p2⟩:=dL .busy lp1.pending q10 k1 he1 hg1 q1;have e1:({ zIM with state:=.busy,pending:=lp1.pending }:Loop)={ zIM with state:=.busy }:=by rw[<-q3]
 have e2:({ lp1 with state:=.busy,pending:=lp1.pending }:Loop)={ lp1 with state:=.busy }:=rfl;rw[e1,e2] at p1;rw[e1] at p2;have hG1:=hG.mono k2.le;refine wpIn_mono (hq w.heap.size (Fence.wide.inRound e.r) f1 a1 _ (bT _) ⟨rfl,fun l h=>by have:=zN0 h;subst this;exact p2.lps _ ⟨_,q1⟩⟩ p1 hG1 k3 (Marks.grow p2 _ k4)) ?_;rintro ex2 a2 w2 ⟨s,f2,⟨lp2,hg2,hs⟩,rfl,s1,s2,s3,s4⟩;have he2:=s2.le _ _ he1;obtain⟨_,zLN,t1,t2,t3,t4,t5,t6,t7,t8,t9,t10,t11⟩:=vY s1 he2 hg2
 have zIN:∀ c,yU s.e=some c->qI7 c=true:=by
  intro c hc;cases hse:s.e <;> rw[hse] at hc <;> simp[yU] at hc <;> subst hc <;> rfl
 obtain⟨u1,u2⟩:=dL (if (yU s.e).isNone then .ready else .done) (yU s.e) zIN s1 he2 hg2 t1
 have fin:∃ v w',(Instr.endRound e.r (yU s.e)).run P w2=.ok v w'∧Comes P f H w Q (.returned v) w' :=
  ⟨_,_,run_endRound (yU s.e) t1,⟨_,_,f2,rfl,hs,u1,((k2.trans p2).trans s2).trans u2,.base _ rfl⟩⟩
 cases hse:s.e with
 | normal=>rw[hse] at fin;exact fin
 | ret=>rw[hse] at fin;exact fin
 | exit id=>rw[hse] at fin;exact fin
 | goto t=>rw[hse] at fin;exact fin
theorem Setup.zJ9 (s:Setup P good nat G){v:Operand}{ps:Array Tmp}{x y:Code}{env:Env}{Q:Out->Prop}{first captured:Array Value}{Qc:Value×IH->Prop}(hv:kR G v=true)(hx:codeOk G true x=true)(hy:codeOk G true y=true)
 (hval:env.val v=.func (.func g) first captured) (hent:entered P g=true)
 (hcall:gP P G g (qEO first.toList (.func (.yield H.size) #[] #[]::captured.toList)) (H.push (.loop { state:=.ready,pending:=none,fn:=0,tmps:=env.toArray,params:=ps,assign:=x,body:=y,defers:=0 })) Qc)
 (hq:∀ r,Qc r->(kQ (iex P good nat 2) H.size env r).holds Q):Holds P G rd (.rangeFunc v ps x y) env H Q:=by
 classical
 intro B F f a w hF hr hR hG zFI hm
 let L:List Value:=qEO first.toList (.func (.yield H.size) #[] #[]::captured.toList)
 let HL:IH:=H.push (.loop { state:=.ready,pending:=none,fn:=0,tmps:=env.toArray,params:=ps,assign:=x,body:=y,defers:=0 })
 let zJF:xA:=fun g1=>if g1=g then some (fun args H1=>if args=L∧H1=HL then .sp Qc .ret else .fail) else none
 have hs1:vI P G zJF:=by
  intro g1 k hk args args' H1 f1 w1 Q1 hR1 hG1 ha1 hq1;simp only[zJF] at hk;split at hk
  ·rename_i hg1;subst hg1;cases hk;change T.holds Q1 (if args=L∧H1=HL then T.sp Qc T.ret else T.fail) at hq1;split at hq1
   ·rename_i hc;obtain⟨rfl,rfl⟩:=hc;exact (hcall.mono fun r hr=>hq1 r hr) args' f1 w1 hR1 hG1 ha1
   ·exact hq1.elim
  ·cases hk
 let zIL:Job->IH->T Out:=fun j H=>match j with
  | .code c env=>iex P good nat 2 (.code c env) H
  | _=>.fail
 have zKP:xE P G (iex P good nat 2):=(qJ5 s.ext s.spec s.good (fun _ _ hc hr=>qDP s.mix hc hr) 2).1;have hrun:xE P G zIL:=zKP
 have hc:kF P G (yJ zIL zJF):=by
  intro g1 args args' H1 f1 w1 Q1 hR1 hG1 ha1 hq1;unfold yJ at hq1;split at hq1
  ·rename_i k hk;exact hs1 g1 k hk args args' H1 f1 w1 Q1 hR1 hG1 ha1 hq1
  ·exact hq1.elim
 refine qBV hc hrun hF hr hR hG (jI hG hv) (qO hG _ _ hx) (qO hG _ _ hy) zFI hm ?_;unfold kT;rw[hval];simp only[hent,cond_true];unfold yJ;simp only[zJF,if_true,L,HL,and_self];exact fun r hr=>hq r hr
end Go.Idl
namespace Go.Idl
variable {P:Program}
variable {H:IH}{b:Nat}{o:Obj}
def Grown (H:IH)(el:TypeId)(lo:Nat)(v:Value)(vs:List Value):Prop :=
 (vs=[]∧v=.slice none 0 0)∨∃ b,lo<=b∧b < H.size∧v=.slice (some ⟨b,0,some el⟩) vs.length vs.length∧H.get b=some (.cells vs.toArray el zN)
theorem Grown.nil (H:IH)(el:TypeId)(lo:Nat):Grown H el lo (.slice none 0 0) []:=.inl ⟨rfl,rfl⟩
theorem jQ (hb:b < H.size):(H.push o).get b=H.get b:=by rw[IH.zFK,if_neg (by omega)]
theorem jR:(H.push o).get H.size=some o:=by rw[IH.zFK,if_pos rfl]
theorem xP {x:Nat}(h:x≠b):(H.put b o).get x=H.get x:=by rw[IH.get_put,if_neg h]
theorem u7:(H.put b o).get b=some o:=by rw[IH.get_put,if_pos rfl]
def zCV (H:IH)(el:TypeId)(lo hi:Nat)(v:Value)(zs:List Int):Prop :=
 (zs=[]∧v=.slice none 0 0)∨∃ b sp cap fz,lo<=b∧b < hi∧b < H.size∧v=.slice (some ⟨b,0,sp⟩) zs.length cap∧H.get b=some (.cells (zs.map (Value.int .i64)).toArray el fz)
def zBN (H:IH)(el:TypeId)(lo hi:Nat)(rows:List Value)(zss:List (List Int)):Prop:=rows.length=zss.length∧∀ (i:Nat) r zs,rows[i]?=some r->zss[i]?=some zs->zCV H el lo hi r zs
theorem zBN.nil (H:IH)(el:TypeId)(lo hi:Nat):zBN H el lo hi [] []:=⟨rfl,fun i r zs h=>by simp at h⟩
end Go.Idl
namespace Go.Idl
variable {P:Program}{good:FuncId->Bool}{nat:xA}{G:Nat->Bool}{rd:Bool}
end Go.Idl
namespace Go.Idl
variable {P:Program}
end Go.Idl
namespace Go.Idl
variable {P:Program}
end Go.Idl
namespace Go.Idl
variable {P:Program}{good:FuncId->Bool}{nat:xA}{G:Nat->Bool}{rd:Bool}
end Go.Idl
namespace Go.Idl
variable {P:Program}
end Go.Idl
namespace Go.Idl
variable {P:Program}
def OwnAt (H:IH)(el:TypeId)(lo:Nat)(v:Value)(zs:List Int):Prop :=
 ∃ b sp fz,lo<=b∧b < H.size∧v=.slice (some ⟨b,0,sp⟩) zs.length zs.length∧H.get b=some (.cells (zs.map (Value.int .i64)).toArray el fz)∧aZ fz=true
theorem Grown.own {H:IH}{el:TypeId}{lo:Nat}{v:Value}{zs:List Int}(h:Grown H el lo v (zs.map (Value.int .i64)))(hne:zs≠[]):OwnAt H el lo v zs:=by
 rcases h with ⟨h1,_⟩ | ⟨b,h1,h2,rfl,h3⟩
 ·simp at h1;exact absurd h1 hne
 ·exact⟨b,some el,zN,h1,h2,by rw[zNA],h3,rfl⟩
end Go.Idl
namespace Go.Idl
variable {P:Program}{good:FuncId->Bool}{nat:xA}{G:Nat->Bool}{rd:Bool}
def Keeps (H H':IH):Prop:=∀ b o,H.get b=some o->H'.get b=some o
theorem Keeps.trans {H H1 H2:IH}(a:Keeps H H1)(b:Keeps H1 H2):Keeps H H2:=fun x o h=>b x o (a x o h)
end Go.Idl
namespace Go.Idl
variable {P:Program}{good:FuncId->Bool}{nat:xA}{G:Nat->Bool}{rd:Bool}
end Go.Idl
namespace Go.Idl
variable {P:Program}
end Go.Idl
namespace Go.Idl
variable {P:Program}{good:FuncId->Bool}{nat:xA}{G:Nat->Bool}{rd:Bool}
variable {H:IH}{Q:Value×IH->Prop}{args:List Value}{env:Env}
open Classical in
noncomputable def qM0 (l0:Nat)(zKQ:List Value)(H0:IH)(Q0:Value×IH->Prop):Nat->List Value->IH->T (Value×IH):=fun l args H=>if l=l0∧args=zKQ∧H=H0 then .sp Q0 .ret else .fail
theorem q2T {l:Nat}:qM0 l args H Q l args H=.sp Q .ret:=by unfold qM0;rw[if_pos ⟨rfl,rfl,rfl⟩]
theorem qRP {l:Nat}(h:qAI P G l args H Q):q3A P G (qM0 l args H Q):=by
 intro l' args' H' Q' hq;unfold qM0 at hq;split at hq
 ·rename_i hc;obtain⟨rfl,rfl,rfl⟩:=hc;exact h.mono fun r hr=>hq r hr
 ·exact hq.elim
theorem qRH {o:Oper}{f:Operand}{args:Array Operand}{ts:Array TypeId}{l:Nat}(hf:env.val f=.func (.yield l) #[] #[]):yI P o ⟨.value f,args,ts⟩ env H=some (.round l (kP env.val args.toList) H):=by
 have:fG P ⟨.value f,args,ts⟩ env H=some (.round l (kP env.val args.toList) H):=by
  unfold fG;simp only[hf];rfl
 unfold yI;rw[this]
theorem qS3 {l:Nat}:qIE (qVC (qM0 l args H Q)) nat (some (.round l args H))=.sp Q .ret:=by
 rw[qNP,q2T];rfl
structure Fr (T:Nat->Prop) (H H':IH):Prop where
 size:H.size<=H'.size
 base:H'.base=H.base
 get:∀ b,b < H.size->¬ T b->H'.get b=H.get b
theorem Fr.trans {T T':Nat->Prop}{H H1 H2:IH}(a:Fr T H H1)(b:Fr T' H1 H2)(ht:∀ x,x < H.size->T' x->T x):Fr T H H2 :=
 ⟨zNP a.size b.size,b.base.trans a.base,fun x hx hn=>(b.get x (zM4 hx a.size) fun h=>hn (ht x hx h)).trans (a.get x hx hn)⟩
theorem Setup.zKA (s:Setup P good nat G){v:Operand}{ps:Array Tmp}{x y:Code}{H:IH}{Q:Out->Prop}{g:FuncId}{first captured:Array Value}(hv:kR G v=true)(hx:codeOk G true x=true)(hy:codeOk G true y=true)
 (hval:env.val v=.func (.func g) first captured) (hent:entered P g=true)
 (hk:∀ lp:Loop,lp.state=.ready->lp.pending=none->lp.tmps.toList=env->lp.params=ps->lp.assign=x->lp.body=y->∃ Qc,gP P G g (qEO first.toList (.func (.yield H.size) #[] #[]::captured.toList)) (H.push (.loop lp)) Qc ∧
   ∀ r,Qc r->(kQ (iex P good nat 2) H.size env r).holds Q):Holds P G rd (.rangeFunc v ps x y) env H Q:=by
 obtain⟨Qc,h1,h2⟩:=hk { state:=.ready,pending:=none,fn:=0,tmps:=env.toArray,params:=ps,assign:=x,body:=y,defers:=0 } rfl rfl rfl rfl rfl rfl;exact s.zJ9 hv hx hy hval hent h1 h2
theorem q09 {l:Nat}{r:Value×IH}{lp:Loop}{run:Job->IH->T Out}{Q:Out->Prop}(hg:r.2.get l=some (.loop lp))(hs:lp.state=.ready)(hp:lp.pending=none)(hq:∀ lp',Q ⟨.normal,env,r.2.put l (.loop lp')⟩) :
 (kQ run l env r).holds Q:=by
 cases lp;simp only at hs hp;subst hs hp;unfold kQ;rw[hg];exact hq _
structure zLR (n:Nat) (H H':IH):Prop where
 size:H.size<=H'.size
 base:H'.base=H.base
 get:∀ b,b < H.size->(b < n∨∀ lp,H.get b≠some (.loop lp))->H'.get b=H.get b
theorem Old.l {H H':IH}(h:Old H H')(n:Nat):zLR n H H':=⟨h.size,h.base,fun b hb _=>h.get b hb⟩
end Go.Idl
