/- The soundness of ideal runs, and rules for their use. Conditions: none. -/
import Derived.Test.YtihofndbgpmloaaGreatDoorIdlF
set_option linter.all false
namespace Go.Idl
variable{P:T'}{good:C'->Bool}{nat:qi}
variable{G:Nat->Bool}
def eL:qi:=λ_=>none
theorem lM:j8 eL:=by intro f k h;cases h
theorem Td:vw P G eL:=by intro f k h;cases h
end Go.Idl
namespace Go.Idl
variable{P:T'}{good:C'->Bool}{nat:qi}
variable{H:IH}{f f1:Inj}{g:C'}{k:List P'->IH->Option P'}{w:J'}
structure Old(H H':IH):Prop where
 size:H.size<=H'.size
 base:H'.base=H.base
 get:∀b,b<H.size->H'.get b=H.get b
theorem Old.refl(H):Old H H:=⟨qJJ _,rfl,λ_ _=>rfl⟩
theorem Old.trans{H c e}(a:Old H c)(b:Old c e):Old H e:=⟨qJ5 a.size b.size,b.base.trans a.base,λx d=>(b.get x (qJM d a.size)).trans (a.get x d)⟩
theorem Old.push(H o):Old H (H.push o):=⟨by simp,rfl,λx a=>by rw[IH.y6,if_neg (by omega)]⟩
theorem Rel.qDB{r s c I G}(p:Rel P f H w)(L:w.heap[r]?=some (.cells c I G))(K:∀b e,f b=some e->e.r=r->e.ro=true)(E C)(O:s+E.size<=c.size)(Q:∀(i)v,E[i]?=some v->∃B,c[s+i]?=some B/\qI P f v B):Rel P (f.add H.size ⟨r,s,c.size,true⟩) (H.push (.cells E C (0,1))) w/\f.le (f.add H.size ⟨r,s,c.size,true⟩):=by have m:=Qk p;have n:f.le (f.add H.size ⟨r,s,c.size,true⟩):=Inj.aN m;refine⟨⟨?_,?_,?_,?_,?_,?_⟩,n⟩;{intro b e a;by_cases d:b=H.size;{simp_all};rw[Inj.zG d]at a;have:=p.dom b e a;simp;omega};{intro b a;simp[IH.size_push]at a;rw[IH.y6,if_neg (by omega)];exact p.fresh b (by omega)};{intro b e a;by_cases d:b=H.size;{grind[Inj.add_same]};rw[Inj.zG d]at a;exact p.bound b e a};{intro b e o a A;by_cases d:b=H.size;{subst d;rw[Inj.add_same]at a;cases a;rw[IH.y6,if_pos rfl]at A;cases A;refine⟨c,I,G,L,rfl,O,λi v R=>?_,λh=>by grind[vS],λh=>by grind⟩;have⟨B,l,j⟩:=Q i v R;exact⟨B,l,j.mono n⟩};rw[Inj.zG d]at a;rw[IH.y6,if_neg d]at A;exact(p.obj b e o a A).mono n};{intro u t d D U N y l j J F S M q;by_cases z:u=H.size;{subst z;rw[Inj.add_same]at l;rw[Inj.zG (Ne.symm y)]at j;grind};rw[Inj.zG z]at l;by_cases x:t=H.size;{subst x;rw[Inj.add_same]at j;grind};rw[Inj.zG x]at j;rw[IH.y6,if_neg z]at J;rw[IH.y6,if_neg x]at F;exact p.sep u t d D U N y l j J F S M q};intro u t d D l j q;by_cases z:u=H.size;{grind[Inj.add_same,Inj.zG]};rw[Inj.zG z]at l;by_cases x:t=H.size;{grind[Inj.add_same]};rw[Inj.zG x]at j;exact p.j0 u t d D l j q
end Go.Idl
namespace Go.Idl
variable{P:T'}{good:C'->Bool}{nat:qi}{rd:Bool}
variable{G:Nat->Bool}{H:IH}{Q:Out->Prop}{c:Code}{env gg:Env}{f:Inj}{l:List (Nat×Obj)}{w:J'}
def Holds(P G rd)(c:Code)(env:Env)(H Q):=∀(B:Nat)(F:Fence)(f:Inj)(a:Act)(w:J'),zr F->vc rd F w->Rel P f H w->z8 G f->qL P f env a.tmps.toList->Marks B f w a.defers->c.wpIn F 0 P (yh P B f H w Q) a w
structure Setup(P:T')(good:C'->Bool)(nat:qi)(G:Nat->Bool):Prop where
 mix:P.follows .mixedOrders=true
 ext:j8 nat
 spec:vw P G nat
 good:Y3 P good G
theorem Setup.run(s:Setup P good nat G)(n)(e:codeOk G rd c=true)(h:(iex P good nat n (.code c env) H).holds Q):Holds P G rd c env H Q:=by intro B F f a w j d k g b i;exact(Aq s.ext s.spec s.good (λ_ _ e d=>Fi s.mix e d) n).1 B F rd c env H f a w Q j d k g (xN g _ _ e) b i h
theorem Tc{g j b a Q}(y:P.funcs[g]?=some j)(I:j.body=some c)(D:Rel P f H w)(J:z8 G f)(C:qL P f b a)(h:Holds P G false c (b++List.replicate (j.ntmps-b.length) undef) H λo=>(o.e=.normal\/o.e=.ret)/\∃v,wg P j o.env o.H=some v/\Q (v,o.H)):CallsIn Fence.wide 0 P g a.toArray w (Comes P f H w Q):=by(have p:qL P f (b++List.replicate (j.ntmps-b.length) undef) (a.toArray++Array.replicate (j.ntmps-a.toArray.size) undef).toList:=by(have N:(a.toArray++Array.replicate (j.ntmps-a.toArray.size) undef).toList=a++List.replicate (j.ntmps-b.length) undef:=by simp[C.1]);rw[N];refine C.append ?_;(have X:∀n,qL P f (List.replicate n undef) (List.replicate n undef):=by intro n;induction n with|zero=>exact .nil|succ n E=>exact .cons .undef E);grind);refine callsIn_of_wp_marks y I trivial (wpIn_mono (h w.heap.size Fence.wide f _ w Ay (.none rfl) D J p (qJJ _)) ?_);rintro e x B⟨o,V,⟨t,v,F,K⟩,rfl,W,i,O,z⟩;(have q:LeavesInM Fence.wide 0 P j x.tmps (Comes P f H w Q) x.defers .returning B:=by refine K1 x.defers B W z λY s m u k=>?_;have⟨A,S,M⟩:=FT O s F;refine⟨A,S,A,(v,o.H),V,rfl,K,s,⟨i.ky,i.stay,i.le,by rw[u];exact i.size,λr R L=>?_,i.un,⟨k.1.trans i.out.1,k.2.1.trans i.out.2.1,k.2.2.trans i.out.2.2⟩,λr h=>⟨(i.lps r h).choose,(m r (λd U=>pz _ z r h.lt d U)).trans (i.lps r h).choose_spec⟩⟩,M⟩;have⟨q1,Z⟩:=i.keep r R L;grind[pz]);rcases t with t|t<;>(rw[t];exact q)
noncomputable def iF(l:List (Nat×Obj)):Tr Obj:=List.rec .nil (λp _ a=>a.set p.1 p.2) l
noncomputable def oc(l:List (Nat×Obj))(n:Nat):IH:=⟨iF l,n,0,[]⟩
end Go.Idl
namespace Go.Idl
variable{P:T'}{good:C'->Bool}{nat:qi}{G:Nat->Bool}{rd:Bool}
variable{H:IH}{Q:Out->Prop}{env:Env}{id:Nat}{x y:Code}
theorem Holds.mono{c d}(h:Holds P G rd c env H Q)(j:∀o,Q o->d o):Holds P G rd c env H d:=by intro B F f a w i k l g b m;exact wpIn_mono (h B F f a w i k l g b m) λe a w=>dT (.refl _ _ _) j
theorem Holds.NV{Q1}(z:Holds P G rd x env H Q1)(u:∀o,Q1 o->o.e=.normal->Holds P G rd y o.env o.H Q)(t:∀o,Q1 o->o.e≠.normal->Q o):Holds P G rd (.seq x y) env H Q:=by intro B F f a w j m v n b q;refine wpIn_seq (wpIn_mono (z B F f a w j m v n b q) ?_);rintro e r s⟨o,p,d,rfl,i,c,l,g⟩;cases k:o.e with|normal=>exact wpIn_mono (u o d k B F p r s j (m.mono c.lps) i (n.mono c.le) l g) λe a w=>dT c λ_ h=>h|_=>exact⟨o,p,t o d (by grind),by rw[k],i,c,l,g⟩
theorem Holds.NW{Q1:Env->IH->Prop}(d:Holds P G rd x env H λo=>o.e=.normal/\Q1 o.env o.H)(c:∀a b,Q1 a b->Holds P G rd y a b Q):Holds P G rd (.seq x y) env H Q:=.NV d (λ_ h _=>c _ _ h.2) (λ_ h e=>absurd h.1 e)
theorem Holds.cond{v t}(d:yG G v=true)(l:env.val v=.bool t)(k:t=true->Holds P G rd x env H Q)(m:t=false->Holds P G rd y env H Q):Holds P G rd (.cond v x y) env H Q:=by intro B F f a w g h i e b j;have c:=pw b (dN e d);rw[l]at c;refine wpIn_cond c.tC ?_;cases t with|true=>exact k rfl B F f a w g h i e b j|false=>exact m rfl B F f a w g h i e b j
def Vv(id)(Q:Out->Prop)(o:Out):=match o.e with|.exit a=>if a=id then Q ⟨.normal,o.env,o.H⟩else Q o|_=>Q o
theorem Holds.block(s:Holds P G rd x env H (Vv id Q)):Holds P G rd (.block id x) env H Q:=by intro B F f a w n q r p d t;refine wpIn_block (wpIn_mono (s B F f a w n q r p d t) ?_);rintro e v u⟨o,m,c,rfl,j,i,h,k⟩;unfold Vv at c;cases g:o.e with|exit l=>rw[g]at c;simp[r9,Exit.inBlock];simp at c;by_cases b:l=id;{rw[if_pos b];rw[if_pos b]at c;exact⟨⟨.normal,o.env,o.H⟩,m,c,rfl,j,i,h,k⟩};rw[if_neg b];rw[if_neg b]at c;exact⟨o,m,c,by rw[g];rfl,j,i,h,k⟩|_=>rw[g]at c;exact⟨o,m,c,by rw[g],j,i,h,k⟩
theorem Holds.skip(h:Q ⟨.normal,env,H⟩):Holds P G rd .skip env H Q:=by intro B F f a w g i d e b c;exact wpIn_skip (bE d b c h)
theorem Holds.label{l}(h:Q ⟨.normal,env,H⟩):Holds P G rd (.label l) env H Q:=by intro B F f a w g i d e b c;exact wpIn_label (bE d b c h)
theorem Holds.ret(h:Q ⟨.ret,env,H⟩):Holds P G rd .ret env H Q:=by intro B F f a w g i d e b c;exact wpIn_ret (bE d b c h)
theorem Holds.exit(h:Q ⟨.exit id,env,H⟩):Holds P G rd (.exit id) env H Q:=by intro B F f a w g i d e b c;exact wpIn_exit (bE d b c h)
theorem Holds.scope(g:Holds P G rd x env H λo=>(∀l,o.e≠.goto l)/\Q o):Holds P G rd (.scope x) env H Q:=by intro B F f a w j m q d b c;refine FD (wpIn_mono (g B F f a w j m q d b c) ?_);rintro e t v⟨o,s,⟨u,n⟩,rfl,i,r,p,h⟩;cases k:o.e with|goto l=>grind|_=>exact⟨o,s,n,by rw[k],i,r,p,h⟩
theorem Holds.loop(I:Nat->Env->IH->Prop)(D:∀n env H,I n env H->Holds P G rd x env H λo=>match o.e with|.normal=>∃m,m<n/\I m o.env o.H|_=>Q o){n env H}(h:I n env H):Holds P G rd (.loop x) env H Q:=by intro B F f a w M O U Y i X;let J:Act->J'->Nat->Prop:=λd c m=>∃b j g,I m b j/\Rel P g j c/\Grow f H w g j c/\qL P g b d.tmps.toList/\Marks B g c d.defers;refine wpIn_loop (λd c=>∃m,J d c m) (λd c=>least (J d c)) ⟨n,env,H,f,h,U,.refl _ _ _,i,X⟩ ?_;intro d c R;have⟨⟨b,j,g,N,K,l,V,E⟩,C⟩:=QW R;generalize W:least (J d c)=m at*;refine wpIn_mono (D m b j N B F g d c M (O.mono l.lps) K (Y.mono l.le) V E) ?_;rintro e S Z⟨o,z,k,rfl,u,A,v,t⟩;cases q:o.e with|normal=>rw[q]at k;have⟨p,L,s⟩:=k;have r:J S Z p:=⟨o.env,o.H,z,s,u,l.trans A,v,t⟩;exact⟨⟨p,r⟩,by have:=(QW ⟨p,r⟩).2 p r;grind⟩|_=>rw[q]at k;exact⟨o,z,k,by rw[q],u,l.trans A,v,t⟩
theorem Setup.region(s:Setup P good nat G)(n){id a env b H c Q}(d:yX G a=true)(h:gY P (iex P good nat n) nat a a.toList env H=.ret (b,c))(f:Q ⟨.normal,b,c⟩):Holds P G rd (.region id a false) env H Q:=by refine s.run (n+1) (by grind[codeOk]) ?_;have e:iex P good nat (n+1) (.code (.region id a false) env) H=(gY P (iex P good nat n) nat a a.toList env H).bind λr=>.ret ⟨.normal,r.1,r.2⟩:=rfl;rw[e,h];exact f
theorem Setup.draw(s:Setup P good nat G)(n){a b c}(d:yX G a=true)(g:jb a=true)(h:gJ P (iex P good nat n) nat a env H=some (b,c))(f:Q ⟨.normal,b,c⟩):Holds P G rd (.region id a true) env H Q:=by refine s.run (n+1) (by grind[codeOk]) ?_;have e:iex P good nat (n+1) (.code (.region id a true) env) H=Qz (gJ P (iex P good nat n) nat a env H):=rfl;rw[e,h];exact f
end Go.Idl
namespace Go.Idl
variable{P:T'}{good:C'->Bool}{nat:qi}{G:Nat->Bool}{rd:Bool}
variable{H:IH}{c:Code}{env:Env}{f:Inj}{fn:Func}{g:C'}{n:Nat}{v:P'}{w:J'}
theorem Rel.same{a}(h:Rel P f H w)(l:w.heap.size<=a.heap.size)(k:∀r,r<w.heap.size->a.heap[r]?=w.heap[r]?)(d:a.os=w.os/\a.output=w.output/\a.tape=w.tape):Rel P f H a/\Grow f H w f H a:=⟨⟨h.dom,h.fresh,λb e i=>qJM (h.bound b e i) l,λb e o i j=>by rw[k _ (h.bound b e i)];exact h.obj b e o i j,h.sep,h.j0⟩,⟨qJJ _,λ_ _ h=>h,f.le_refl,l,λr m j=>⟨j,k r m⟩,λ_ _ h=>h,d,λr h=>⟨h.choose,(k r h.lt).trans h.choose_spec⟩⟩⟩
def nS(n:Nat):Inj:=λg=>cond (Nat.blt g n) (some ⟨g,0,sq g,true⟩) none
def qk(n):=λg=>Nat.blt g n
theorem aq{g e}(h:nS n g=some e):g<n/\e=⟨g,0,sq g,true⟩:=by unfold nS at h;cases a:Nat.blt g n with|false=>grind|true=>simp_all
theorem SC(n):z8 (qk n) (nS n):=by intro g a;have b:Nat.blt g n=true:=a;rw[QV];exact⟨⟨g,0,sq g,true⟩,by grind[nS],rfl,rfl,qA_ g⟩
end Go.Idl
namespace Go.Idl
variable{P:T'}{good:C'->Bool}{nat:qi}{rd:Bool}
theorem bB{α}(a)(l:List α):qS (a::l) 0=some a:=Eq.trans rfl rfl
theorem bA{α}(a)(l:List α)(n):qS (a::l) (n+1)=qS l n:=Eq.trans rfl rfl
theorem mf{α}(a b)(l:List α):qY (a::l) 0 b=b::l:=Eq.trans rfl rfl
theorem mq{α}(a b)(l:List α)(n):qY (a::l) (n+1) b=a::qY l n b:=Eq.trans rfl rfl
theorem nb(a:Env)(t):a.val (.tmp t)=(qS a t).getD undef:=Eq.trans rfl rfl
theorem BR(a:Env)(v):a.val (.const v)=v:=Eq.trans rfl rfl
theorem Bb(a:Env)(f):a.val (.func f)=.func (.func f) #[] #[]:=rfl
theorem mm(a:Env)(t v):a.zW (some t) v=qY a t v:=Eq.trans rfl rfl
theorem Ai(a:Env)(v):a.zW none v=a:=Eq.trans rfl rfl
theorem nN{a v H}:np a nat (some (.val v H))=.ret (v,H):=Eq.trans rfl rfl
theorem TQ{b g a H}:np b nat (some (.enter g a H))=yJ b nat g a H:=Eq.trans rfl rfl
section
variable{o:I'}{t:B'}{k:L'}{a b:Int}{env:Env}{H:IH}
theorem fV{c v}(h:uB c k a b=some v):zp P o c t (.int k a) (.int k b) env H=some (.val v H):=by unfold zp uW asI;simp_all
theorem Dj:zp P o .lss t (.int k a) (.int k b) env H=some (.val (.bool (decide (a<b))) H):=fV rfl
theorem Dc:zp P o .leq t (.int k a) (.int k b) env H=some (.val (.bool (decide (a<=b))) H):=fV rfl
theorem Cd:zp P o .gtr t (.int k a) (.int k b) env H=some (.val (.bool (decide (b<a))) H):=fV rfl
theorem Ca:zp P o .geq t (.int k a) (.int k b) env H=some (.val (.bool (decide (b<=a))) H):=fV rfl
theorem DU:zp P o .eql t (.int k a) (.int k b) env H=some (.val (.bool (a==b)) H):=fV rfl
theorem qAI:zp P o .neq t (.int k a) (.int k b) env H=some (.val (.bool (a !=b)) H):=fV rfl
theorem Db:zp P o .add t (.int k a) (.int k b) env H=some (.val (.int k (k.wrap (a+b))) H):=fV rfl
theorem DH:zp P o .sub t (.int k a) (.int k b) env H=some (.val (.int k (k.wrap (a-b))) H):=fV rfl
theorem Ah{c x y}:cI (.bool c) x y H=some (.val (cond c x y) H):=rfl
end
theorem IN{t b i H v}(a:kp P t=some false)(h:H.load b i=some v):jI P t (.pointer (some ⟨b,i,none⟩)) H=some v:=by grind[jI]
noncomputable def enters(P:T')(g:C'):Bool:=match P.funcs[g]? with|some a=>a.body.isSome&&(a.name != "runtime.NumGoroutine")|none=>false
theorem JF{o f c e d H g b a}(h:d.val f=.func (.func g) b a)(i:enters P g=true):zl P o ⟨.value f,c,e⟩ d H=some (.enter g (xx b.toList (xx (qp d.val c.toList) a.toList)) H):=by(have:yk P ⟨.value f,c,e⟩ d H=some (.enter g (xx b.toList (xx (qp d.val c.toList) a.toList)) H):=by grind[enters,yk]);grind[zl]
end Go.Idl
namespace Go.Idl
variable{P:T'}{good:C'->Bool}{nat:qi}{G:Nat->Bool}{rd:Bool}
theorem Setup.qDC(s:Setup P good nat G)(n){id b y c a H f Q}(d:yX G b=true)(h:gY P (iex P good nat n) nat b b.toList c H=.ret (a,f))(g:Holds P G rd y a f Q):Holds P G rd (.seq (.region id b false) y) c H Q:=Holds.NW (Q1:=λe h=>e=a/\h=f) (s.region n d h ⟨rfl,rfl,rfl⟩) λe h⟨i,j⟩=>by grind
noncomputable def Y9(w:Bool):Option P'->Option Bool|some v=>Vd w v|none=>none
noncomputable def ny(w:Bool)(a:Env):Option Tmp->Option Bool|some t=>Y9 w (qS a t)|none=>some false
theorem Fs{w a t}:ny w a (some t)=Y9 w (qS a t):=rfl
theorem Fq{w b}:Y9 w (some (.bool b))=some (b==w):=rfl
theorem Fe{w}:Y9 w (some undef)=some false:=rfl
theorem MB{o g a d b H}(c:enters P g=true):zl P o ⟨.value (.func g),a,d⟩ b H=some (.enter g (qp b.val a.toList) H):=by rw[JF rfl c];simp[fR]
theorem Bc{α β}(g:α->β):qp g []=[]:=rfl
theorem As{α β}(g:α->β)(a l):qp g (a::l)=g a::qp g l:=rfl
theorem Yx{o x t a H}:zl P o ⟨.builtin .len,#[x],#[t]⟩ a H=(match kh P #[t] [a.val x] H with|some r=>some r|none=>qn P o a H):=rfl
theorem Fw{t e a n c H}(b:P.underlying t=some (.slice e)):kh P #[t] [.slice a n c] H=some (.val (goInt n) H):=by unfold kh;grind
theorem By{b}{t:Tmp}{a:Env}{H v}(c:b.results=#[.tmp t])(h:qS a t=some v):wg P b a H=some v:=by grind[wg,cA,sM,one]
end Go.Idl
namespace Go.Idl
theorem Vk:(true==true)=true:=rfl
theorem Vq:(true==false)=false:=rfl
theorem Vt:(false==true)=false:=rfl
theorem Vr:(false==false)=true:=rfl
end Go.Idl
namespace Go.Idl
variable{P:T'}{good:C'->Bool}{nat:qi}{G:Nat->Bool}{rd:Bool}
noncomputable def uG(a:List (Option Tmp))(j:Nat):Option Tmp:=match a[j]? with|some d=>d|none=>none
theorem Ku{d a}:uG (d::a) 0=d:=rfl
theorem AL{d a j}:uG (d::a) (j+1)=uG a j:=by simp[uG]
noncomputable def nG(b)(o:I')(a):=match o.guard with|none=>some true|some (j,w)=>ny w a (uG b j)
theorem K7(c o b):vL c o b=nG (c.toList.map (·.dst)) o b:=by have⟨d,h,f,p,a,g⟩:=o;cases g with|none=>rfl|some e=>have⟨j,w⟩:=e;show ny w b _=ny w b _;grind[uG]
noncomputable def jf(P:T')(b:Job->IH->T Out)(nat:qi)(c:List (Option Tmp)):List I'->Env->IH->T (Env×IH)|[],a,H=>.ret (a,H)|o::l,a,H=>xS (nG c o a) ((ze P b nat o a H).bind λr=>jf P b nat c l (a.zW o.dst r.1) r.2) (jf P b nat c l (a.zW o.dst undef) H) .fail
theorem ZJ{c}(b):∀(l a H),gY P c nat b l a H=jf P c nat (b.toList.map (·.dst)) l a H|[],a,H=>rfl|o::l,a,H=>by rw[JM];rw[K7,ZJ b l];congr 2;funext r;exact ZJ b l _ _
theorem me{f d e c p a b}:nG f ⟨d,e,c,p,a,none⟩ b=some true:=rfl
theorem Ko{c d f e p a b j w}:nG c ⟨d,f,e,p,a,some (j,w)⟩ b=ny w b (uG c j):=rfl
theorem Jb{b c a H}:jf P b nat c [] a H=.ret (a,H):=Eq.trans rfl rfl
noncomputable def WX(P b nat c d l)(a:Env)(t:T (P'×IH)):=t.bind λr=>jf P b nat c l (a.zW d r.1) r.2
noncomputable def goE(P b nat d o l a H c):=xS c (WX P b nat d o.dst l a (ze P b nat o a H)) (jf P b nat d l (a.zW o.dst undef) H) .fail
theorem dW{b c o l a H}:jf P b nat c (o::l) a H=goE P b nat c o l a H (nG c o a):=Eq.trans rfl rfl
theorem my{b c o l a H}:goE P b nat c o l a H (some true)=WX P b nat c o.dst l a (ze P b nat o a H):=Eq.trans rfl rfl
theorem Aj{b c o l a H}:goE P b nat c o l a H (some false)=jf P b nat c l (a.zW o.dst undef) H:=Eq.trans rfl rfl
theorem mo{b c d l a v H}:WX P b nat c d l a (.ret (v,H))=jf P b nat c l (a.zW d v) H:=Eq.trans rfl rfl
theorem Setup.UU(s:Setup P good nat G)(n){id a y c b H e Q f}(d:yX G a=true)(g:a.toList.map (·.dst)=f)(h:jf P (iex P good nat n) nat f a.toList c H=.ret (b,e))(i:Holds P G rd y b e Q):Holds P G rd (.seq (.region id a false) y) c H Q:=s.qDC n d (by grind[ZJ]) i
theorem Setup.qDD(s:Setup P good nat G)(n){id a c b H e Q f}(d:yX G a=true)(i:a.toList.map (·.dst)=f)(h:jf P (iex P good nat n) nat f a.toList c H=.ret (b,e))(g:Q ⟨.normal,b,e⟩):Holds P G rd (.region id a false) c H Q:=s.region n d (by grind[ZJ]) g
end Go.Idl
namespace Go.Idl
variable{P:T'}{good:C'->Bool}{nat:qi}{G:Nat->Bool}{rd:Bool}
end Go.Idl
namespace Go.Idl
end Go.Idl
namespace Go.Idl
variable{P:T'}
noncomputable def W4(P a v H):=qn P ⟨none,.unOp a 0 (.const v),0,"",#[],none⟩ [] H
theorem EC{c t x d e p a g b H}:qn P ⟨d,.unOp c t x,e,p,a,g⟩ b H=W4 P c (b.val x) H:=rfl
theorem ER{n H}:W4 P .neg (.int .i64 n) H=some (.val (.int .i64 (IntKind.i64.wrap (0-n))) H):=rfl
theorem EG{b H}:W4 P .not (.bool b) H=some (.val (.bool !b) H):=rfl
end Go.Idl
namespace Go.Idl
variable{P:T'}{good:C'->Bool}{nat:qi}{G:Nat->Bool}{rd:Bool}
def rN(nat:qi):=∀g k,nat g=some k->∀a H r,k a H=.ret r->r.2=H
theorem AX:rN eL:=by intro g k h;cases h
def calm(o:I'):Bool:=match zS o with|.pure|.read|.call=>true|_=>false
theorem Tw(z:rN nat){o e H r}(u:calm o=true)(h:ze P (iex P good nat 0) nat o e H=.ret r):r.2=H:=by(have m:∀s,iop P o e H=some s->(∃v,s=.val v H)\/(∃g a,s=.enter g a H)\/∃l a,s=.round l a H:=by intro s b;unfold calm at u;cases d:zS o with|pure=>have⟨v,t,_⟩:=Km d H s b;grind|read=>grind[J2]|call=>(have:∃f a n,o.op=.call ⟨.value f,a,n⟩:=by unfold zS at d;split at d<;>(simp_all);{grind};rename_i c x;split at d<;>(simp_all);have⟨j,a,n⟩:=c;grind);have⟨f,a,n,y⟩:=this;unfold iop at b;rw[y]at b;simp[zl]at b;split at b;{rename_i q p;unfold yk at p;grind};have⟨v,t,_⟩:=Loose.dry o e H s b;grind|alloc=>grind|fresh=>grind|write=>grind);unfold ze at h;cases b:iop P o e H with|none=>rw[b]at h;cases h|some s=>rw[b]at h;rcases m s b with⟨v,rfl⟩|⟨g,a,rfl⟩|⟨l,a,rfl⟩;{cases h;rfl};{have i:yJ (iex P good nat 0) nat g a H=.ret r:=h;unfold yJ at i;split at i;{rename_i k w;exact z g k w a H r i};cases i};cases h
structure DE(P:T')(lo:List (Nat×Nat×Nat))(l:List I')(i k:Nat)(env:Env)(H:IH)(eF:Env)(HF:IH)(hs:List IH)(rs:List Rec):Prop where
 heaps:∀m,m<=zj (l.take k)->(H::hs)[m]?=some H
 recs:∀r∈rs,∃j p,r.i=i+j/\l[j]?=some r.o/\km r.i lo=some p/\(j<k->zS r.o=.read->iop P r.o r.env H=some (.val r.v H))/\(∀d,r.o.dst=some d->d<env.length->¬writes l (λk'=>j<k') d->eF.at d=r.v)
theorem Wh(S:rN nat){B lo}:∀(l i k a H f g),(∀o∈l,qw o=false)->(∀o∈l.take k,calm o=true)->jf P (iex P good nat 0) nat (B.toList.map (·.dst)) l a H=.ret (f,g)->∃c b,cB P (iex P good nat 0) nat B lo l i a H=some (f,g,c,b)/\DE P lo l i k a H f g c b|[],i,k,a,H,f,g,_,_,h=>by cases h;refine⟨[],[],rfl,⟨λm u=>?_,λr e=>by cases e⟩⟩;simp[zj]at u;subst u;rfl|o::l,i,k,a,H,f,g,ha,hc,h=>by have C:=ha o qJU;rw[Kx,C];simp only[cond_false];rw[dW,<-K7]at h;unfold goE xS at h;(have s:∀z∈l.take (k-1),calm z=true:=by intro z w;cases k with|zero=>simp at w|succ k=>grind);have F:∀z∈l,qw z=false:=λz w=>ha z (qJR _ w);(have t:∀(v)(K)(c)(b x),DE P lo l (i+1) (k-1) (a.zW o.dst v) K f g c b->(0<k->K=H)->(∀r∈x,r∈b\/(r.i=i/\r.o=o/\r.env=a/\r.v=v/\(∃p,km i lo=some p)/\(0<k->zS o=.read->iop P o a H=some (.val v H))/\(∀d,o.dst=some d->d<a.length->¬writes l (λ_=>True) d->f.at d=v)))->DE P lo (o::l) i k a H f g (fe (zS o).eff K c) x:=by intro v K c b x J hH e;refine⟨λm u=>?_,λr hr'=>?_⟩;{cases k with|zero=>simp[zj]at u;subst u;rfl|succ k=>have V:=hH (by omega);subst V;rw[qKi,Qw]at u;simp only[qLs]at J;by_cases M:zV o=true;{have y:(zS o).eff=true:=M;rw[y];cases m with|zero=>rfl|succ m=>rw[if_pos M]at u;exact J.heaps m (by omega)};(have y:(zS o).eff=false:=by simpa[zV]using M);rw[y];rw[if_neg M]at u;exact J.heaps m (by omega)};rcases e r hr' with h1|⟨h1,h2,h3,h4,⟨p,h5⟩,h6,h7⟩;{obtain⟨j,p,g1,g2,g3,g4,g5⟩:=J.recs r h1;refine⟨j+1,p,by omega,by simpa using g2,g3,λhj s=>?_,λd D I E=>g5 d D (by rw[p7];exact I) ?_⟩;{grind};rintro⟨Y,N,q1,W,q3,q4⟩;exact E ⟨Y+1,N,by omega,by simpa using W,q3,q4⟩};refine⟨0,p,by omega,by simp[h2],by rw[h1];exact h5,λhj s=>?_,λd D I E=>?_⟩;{grind};rw[h4];refine h7 d (by rw[<-h2];exact D) I ?_;rintro⟨Y,N,_,W,q3,q4⟩;exact E ⟨Y+1,N,by omega,by simpa using W,q3,q4⟩);split at h;{rename_i Q;rw[Q];cases A:ze P (iex P good nat 0) nat o a H with|fail=>rw[A]at h;cases h|ch n k=>rw[A]at h;cases h|sp p k=>rw[A]at h;cases h|ret q=>rw[A]at h;obtain⟨c,b,L,O⟩:=Wh S l (i+1) (k-1) _ _ f g F s h;have Z:=p0 l _ _ _ _ _ _ _ L;refine⟨fe (zS o).eff q.2 c,oO (km i lo) i o a q.1 b,by simp only[xS,sC,aH,YW,L],t q.1 q.2 c b _ O ?_ ?_⟩;{intro hk;cases k with|zero=>omega|succ k=>exact Tw S (hc o (by rw[qKi];exact qJU)) A};intro r e;unfold oO at e;split at e;{rename_i p U;rcases qJl.1 e with rfl|e;{refine .inr ⟨rfl,rfl,rfl,rfl,⟨p,U⟩,λhk R=>?_,λd D I E=>?_⟩;{(have X:zV o=false:=by unfold zV;rw[R];rfl);obtain⟨g1,g2⟩:=JV X C A;exact g2};rw[Z.keep d E,D,QT I]};exact .inl e};exact .inl e};{rename_i Q;rw[Q];obtain⟨c,b,L,O⟩:=Wh S l (i+1) (k-1) _ _ f g F s h;exact⟨fe (zS o).eff H c,b,by simp only[xS,sG,L],t undef H c b _ O (λ_=>rfl) λr e=>.inl e⟩};cases h
def simple:P'->Bool|.int _ _=>true|.bool _=>true|.slice _ _ _=>true|.pointer _=>true|.map _=>true|_=>false
theorem TS{v}(h:simple v=true):veq v v=true:=by(cases v<;>first|cases h|skip);(case bool b=>cases b<;>rfl);(case int k n=>show(k==k&&n==n)=true;simp);(case pointer a=>show(a==a)=true;simp);(case map a=>show(a==a)=true;simp);case slice a l c=>show(a==a&&(l==l&&c==c))=true;simp
noncomputable def cF(a:Array I')(i:Nat):=((a[i]?).bind (·.dst)).getD 0
def AS(a:List (Nat×Nat×Nat))(k n):=a.all λp=>decide (p.1<k)&&decide (p.2.2<=n)
theorem Aw{i p}:∀(l),km i l=some p->(i,p)∈l|[],h=>by cases h|a::l,h=>by have b:km i (a::l)=cond (Nat.beq a.1 i) (some a.2) (km i l):=rfl;rw[b]at h;cases c:Nat.beq a.1 i with|true=>grind[Nat.eq_of_beq_eq_true]|false=>rw[c]at h;exact qJR _ (Aw l h)
theorem TE{a i p}(h:(i,p)∈loose a){o}(b:a[i]?=some o):zS o=.read:=by grind[loose,Zj]
theorem Az{b c r}:∀(a m),(∀k E,a[k]?=some E->b<=m+k->m+k<=c->dx r.v (iop P r.o r.env E)=true)->fD P b c r a m=true|[],_,_=>rfl|h::a,m,d=>by have e:fD P b c r (h::a) m=cond (Nat.ble b m&&Nat.ble m c) (cond (dx r.v (iop P r.o r.env h)) (fD P b c r a (m+1)) false) (fD P b c r a (m+1)):=rfl;rw[e,(Az a (m+1) λk E j g i=>d (k+1) E (by grind) (by omega) (by omega))];cases f:(Nat.ble b m&&Nat.ble m c)with|false=>rfl|true=>simp only[qJI]at f;rw[d 0 h rfl (qJO f.1) (qJO f.2)];rfl
theorem Fj:∀(l a H),(∀o∈l,qw o=false)->gL P l a H=some (a,H)|[],_,_,_=>rfl|o::l,a,H,h=>by unfold gL;rw[h o qJU];exact Fj l a H λc b=>h c (qJR _ b)
theorem Ls(Z:rN nat){a e b H z}(k)(V:jb a=true)(ha:(a.toList.all λo=>!qw o)=true)(S:((a.toList.take k).all calm)=true)(U:AS (loose a) k (zj (a.toList.take k))=true)(s:∀p∈loose a,cF a p.1<e.length/\((a[p.1]?).bind (·.dst)).isSome=true)(L:∀p∈loose a,simple (b.at (cF a p.1))=true)(h:jf P (iex P good nat 0) nat (a.toList.map (·.dst)) a.toList e H=.ret (b,z)):gJ P (iex P good nat 0) nat a e H=some (b,z):=by(have n:∀o∈a.toList,qw o=false:=λo C=>by grind);have⟨v,R,X,B⟩:=Wh (lo:=loose a) Z a.toList 0 k e H b z n (λo C=>qJK.1 S o C) h;unfold gJ;rw[Fj _ _ _ n];simp[X,Zr];(have w:bZ a=[]:=by grind[bZ,Jr,qw,List.filter_eq_nil_iff]);(have f:zF (nC P (loose a) (H::v)) R=true:=by rw[jF];intro r J;have⟨j,p,h1,h2,A,O,Y⟩:=B.recs r J;have u:=Aw _ A;have x:=qJK.1 U _ u;simp[qJI]at x;(have hj:=by omega);(have t:a[r.i]?=some r.o:=by grind);have N:=O (by omega) (TE u t);unfold nC;simp[A];refine Az _ 0 λq E F M Q=>?_;have D:=B.heaps q (by omega);rw[F]at D;cases D;rw[N];have m:=L _ u;have⟨g,c⟩:=s _ u;simp[t]at c;have⟨d,i⟩:=qJc.1 c;(have l:cF a r.i=d:=by grind[cF]);simp[l]at g m;have f:=Zi V;have y:=Y d i g (by rintro⟨I,W,q1,q2,q3,K⟩;exact f.dst j I r.o W d (by omega) (by grind) (by grind) i K);rw[<-y];exact TS m);rw[f,w];rfl
theorem Setup.NX(s:Setup P good nat G)(w:rN nat)(k){id a y d b H j Q q lo}(m:yX G a=true)(n:jb a=true)(t:(a.toList.all λo=>!qw o)=true)(v:((a.toList.take k).all calm)=true)(l:loose a=lo)(r:AS lo k (zj (a.toList.take k))=true)(f:lo.all (λp=>((a[p.1]?).bind (·.dst)).isSome)=true)(i:a.toList.map (·.dst)=q)(h:jf P (iex P good nat 0) nat q a.toList d H=.ret (b,j))(u:(lo.all λp=>Nat.blt (cF a p.1) d.length&&simple (b.at (cF a p.1)))=true)(z:Holds P G rd y b j Q):Holds P G rd (.seq (.region id a true) y) d H Q:=by subst i l;(have g:∀p∈loose a,cF a p.1<d.length/\simple (b.at (cF a p.1))=true:=λp c=>by have:=qJK.1 u p c;simp_all);exact Holds.NW (Q1:=λe h=>e=b/\h=j) (s.draw 0 m n (Ls w k n t v r (λp c=>⟨(g p c).1,qJK.1 f p c⟩) (λp c=>(g p c).2) h) ⟨rfl,rfl,rfl⟩) λe h⟨x,A⟩=>by grind
end Go.Idl
namespace Go.Idl
variable{P:T'}{good:C'->Bool}{nat:qi}{G:Nat->Bool}{rd:Bool}
end Go.Idl
namespace Go.Idl
end Go.Idl
namespace Go.Idl
variable{P:T'}
def wD(f:Inj):=∀b e,f b=some e->e.ro=true
theorem wD.add{f b e}(h:wD f)(d:e.ro=true):wD (f.add b e):=by intro x y a;by_cases c:x=b;{grind[Inj.add_same]};rw[Inj.zG c]at a;exact h x y a
theorem Rel.qDE{f H w}(h:Rel P f H w)(l:wD f)(r:0<w.heap.size):Rel P (f.add H.size ⟨0,1,0,true⟩) (H.push kQ) w/\f.le (f.add H.size ⟨0,1,0,true⟩):=by have g:f.le (f.add H.size ⟨0,1,0,true⟩):=Inj.aN (Qk h);have a:wD (f.add H.size ⟨0,1,0,true⟩):=l.add rfl;refine⟨⟨?_,?_,?_,?_,?_,?_⟩,g⟩;{intro b e d;by_cases c:b=H.size;{simp_all};rw[Inj.zG c]at d;have:=h.dom b e d;simp;omega};{intro b d;simp[IH.size_push]at d;rw[IH.y6,if_neg (by omega)];exact h.fresh b (by omega)};{intro b e d;by_cases c:b=H.size;{grind[Inj.add_same]};rw[Inj.zG c]at d;exact h.bound b e d};{intro b e o d i;by_cases c:b=H.size;{subst c;rw[IH.y6,if_pos rfl]at i;cases i;exact trivial};rw[Inj.zG c]at d;rw[IH.y6,if_neg c]at i;exact(h.obj b e o d i).mono g};{intro n j c m q s _ p k _ _ _ _ _;exact⟨a n c p,a j m k⟩};intro n j c m p k _;rw[a n c p,a j m k]
theorem TG{w:J'}{a v}(h:w.cell? a=some v):a.spot=none/\∃c d b,w.heap[a.block]?=some (.cells c d b)/\c[a.off]?=some v:=by unfold World.cell? at h;split at h;{simp_all};grind
theorem DA{w:J'}{a:Addr}{v c b d i}(e:w.heap[a.block]?=some (.cells c b d))(f:a.spot=none)(h:w.cell? (a.add i)=some v):c[a.off+i]?=some v:=by grind[Addr.add,World.cell?]
theorem qB0{f H w}(t:Rel P f H w)(l:wD f){a:Addr}{L C}(r:L<=C)(s:0<C)(h:List P')(q:h.length=L)(V:Nat->P')(d:∀i,i<C->w.cell? (a.add i)=some (V i))(x:∀i u,h[i]?=some u->qI P f u (V i)):∃k,Rel P (f.add H.size ⟨a.block,a.off,(match w.heap[a.block]? with|some (.cells c _ _)=>c.size|_=>0),true⟩) (H.push (.cells h.toArray k (0,1))) w/\f.le (f.add H.size ⟨a.block,a.off,(match w.heap[a.block]? with|some (.cells c _ _)=>c.size|_=>0),true⟩)/\a.spot=none:=by have n:=d 0 s;rw[(by simp[Addr.add]:a.add 0=a)]at n;have⟨o,c,k,A,m,p⟩:=TG n;(have g:a.off+h.toArray.size<=c.size:=by simp[qL_];by_cases y:L=0;{grind};have:=(qJ6.1 (DA m o (d (L-1) (by omega)))).1;omega);(have:=t.qDB m (λb e j _=>l b e j) h.toArray k g λi v z=>by grind[DA]);grind
end Go.Idl
namespace Go.Idl
variable{P:T'}
end Go.Idl
namespace Go.Idl
variable{P:T'}{good:C'->Bool}{nat:qi}{G:Nat->Bool}{rd:Bool}
variable{H:IH}{Q:Out->Prop}{args:List P'}{c x y:Code}{ds:List (Option Tmp)}{env:Env}{g:C'}{id l l0:Nat}{ops:Array I'}{p:P'×IH->Prop}
inductive WkL:List P'->List P'->Prop|nil:WkL [] []|same{v:P'}{l m:List P'}(h:WkL l m):WkL (v::l) (v::m)|any{v:P'}{l m:List P'}(h:WkL l m):WkL (v::l) (unk::m)
theorem WkL.trans{a b c}(h:WkL a b):WkL b c->WkL a c:=by induction h generalizing c with|nil=>grind|same _ d=>intro k;(cases k with|same k=>exact .same (d k)|any k=>exact .any (d k))|any _ d=>intro k;cases k with|same k=>exact .any (d k)|any k=>exact .any (d k)
def Wk(R:Env->IH->Prop):Env->IH->Prop:=λe h=>∃a,WkL e a/\R a h
open Classical in noncomputable def tz{α:Type}(b:α->List P'->IH->Prop)(a:α->IH->P'->IH->Prop):List P'->IH->T (P'×IH):=λargs H=>if h:∃x,b x args H then .sp (λr=>a (Classical.choose h) H r.1 r.2) .ret else .fail
noncomputable def gi(nat:qi)(g:C'){α}(b:α->List P'->IH->Prop)(a:α->IH->P'->IH->Prop):qi:=λx=>cond (Nat.beq x g) (some (tz b a)) (nat x)
theorem qBU{α a b}(d:∀x y args H,a x args H->a y args H->x=y){x:α}{args H}(e:a x args H):tz a b args H=.sp (λr=>b x H r.1 r.2) .ret:=by have h:∃x,a x args H:=⟨x,e⟩;grind[tz]
theorem Lq{α b}{a:α->IH->P'->IH->Prop}(e:j8 nat):j8 (gi nat g b a):=by intro x y h args H;unfold gi at h;cases d:Nat.beq x g with|false=>rw[d]at h;exact e x y h args H|true=>rw[d]at h;cases h;unfold tz;split<;>exact trivial
def yY(P G g args H Q):=∀(a:List P')(f:Inj)(w:J'),Rel P f H w->z8 G f->qL P f args a->CallsIn Fence.wide 0 P g a.toArray w (Comes P f H w Q)
theorem yY.mono{g args H Q b}(h:yY P G g args H Q)(d:∀r,Q r->b r):yY P G g args H b:=by intro a f w t i q;refine CallsIn.mono (h a f w t i q) ?_;rintro e v⟨o,r,s,u,m,n,k,j⟩;exact⟨o,r,s,u,d r m,n,k,j⟩
theorem yY.of{a Q N}(b:P.funcs[g]?=some a)(m:a.body=some c)(e:a.ntmps=N)(h:Holds P G false c (args++List.replicate (N-args.length) undef) H λo=>(o.e=.normal\/o.e=.ret)/\∃v,wg P a o.env o.H=some v/\Q (v,o.H)):yY P G g args H Q:=by subst e;exact λd f w k i j=>Tc b m k i j h
theorem Setup.gi(s:Setup P good nat G){g α}(i)(b:α->IH->P'->IH->Prop)(n:∀x args H,i x args H->yY P G g args H λr=>b x H r.1 r.2):Setup P good (Go.Idl.gi nat g i b) G:=by refine⟨s.mix,Lq s.ext,?_,s.good⟩;intro x y h args a H f w Q j m k e;unfold Go.Idl.gi at h;cases d:Nat.beq x g with|false=>rw[d]at h;exact s.spec x y h args a H f w Q j m k e|true=>rw[d]at h;have t:=qJH d;subst t;cases h;unfold tz at e;split at e;{rename_i q;exact(n _ args H (Classical.choose_spec q)).mono (λr o=>e r o) a f w j m k};exact e.elim
def eE(P G l args H Q):=∀(b:List P')(f:Inj)(w:J')(e:Emb),Rel P f H w->z8 G f->f l=some e->qL P f args b->∃i d a h,(Instr.yield e.r b.toArray).run P w=.ok (.round e.r i d a h) w/\RoundIn Fence.wide 0 P e.r i d a h w (Comes P f H w Q)
theorem eE.mono{l args H Q j}(h:eE P G l args H Q)(u:∀r,Q r->j r):eE P G l args H j:=by intro b f w e C s z q;have⟨t,i,a,d,o,A⟩:=h b f w e C s z q;refine⟨t,i,a,d,o,RoundIn.mono A ?_⟩;rintro e F⟨v,r,D,E,B,k,n,m⟩;exact⟨v,r,D,E,u r B,k,n,m⟩
noncomputable def W2(a:Nat->List P'->IH->T (P'×IH)):Job->IH->T Out|.round l args,H=>(a l args H).bind λr=>.ret ⟨.normal,[r.1],r.2⟩|_,_=>.fail
def E2(P G)(a:Nat->List P'->IH->T (P'×IH)):=∀l args H Q,(a l args H).holds Q->eE P G l args H Q
theorem qAF{t:T (P'×IH)}{Q}(h:((t.bind λr=>.ret ⟨.normal,[r.1],r.2⟩).bind wj).holds Q):t.holds Q:=by rw[T.kL,T.kL]at h;exact T.kz (λr a=>a) _ h
theorem Ip{b}(h:E2 P G b):fH P G (W2 b):=by intro l args a H f w e Q k m i j d;exact h l args H Q (qAF d) a f w e k m i j
theorem Sq{a}:np (W2 a) nat (some (.round l args H))=((a l args H).bind λr=>.ret ⟨.normal,[r.1],r.2⟩).bind wj:=rfl
theorem lA{Q i}(hg:H.get l=some (.loop i))(dA:i.state=.ready)(A:args.length=i.params.size)(hb:Holds P G true i.assign ((i.params.toList.zip args).foldl (λe p=>qY e p.1 p.2) i.tmps.toList) H λo=>o.e=.normal/\∃b,o.H.get l=some (.loop b)/\b.state=.ready/\Holds P G true i.body o.env (o.H.put l (.loop {b with state:=.busy})) λs=>∃m,s.H.get l=some (.loop m)/\Q (.bool (xo s.e).isNone,s.H.put l (.loop {m with state:=if(xo s.e).isNone then .ready else .done,pending:=xo s.e}))):eE P G l args H Q:=by intro r f w e hR W he ha;have⟨xm,d,X,g1,g2,g3,g4,g5,g6,g7,g8,g9,g10⟩:=fP hR he hg;refine⟨d.fn,_,d.assign,d.body,run_yield X (by rw[g3,<-A,ha.1];simp),?_⟩;(have E:qL P f ((i.params.toList.zip args).foldl (λe p=>qY e p.1 p.2) i.tmps.toList) ((d.params.zip r.toArray).foldl (λu(t,a)=>u.setIfInBounds t a) d.tmps).toList:=by rw[<-qKn,Array.toList_zip];grind[Jt,Js]);refine roundIn_of_wpIn trivial ?_;rw[g4,g5];refine wpIn_mono (hb w.heap.size (Fence.wide.inRound e.r) f _ w (Qc _) ⟨rfl,λl h=>by have:=qJf h;subst this;exact⟨_,X⟩⟩ hR W E (qJJ _)) ?_;rintro ex a1 w1⟨o,f1,⟨K,b,C,U,hq⟩,rfl,S,L,k3,k4⟩;rw[K];have q:=L.le _ _ he;have⟨_,j,J,q2,q3,q4,q5,q6,q7,q8,q9,M,q11⟩:=fP S q C;refine⟨_,run_beginRound J (by grind),?_⟩;have⟨V,F⟩:=nF .busy b.pending M S q C J;(have Z:({j with state:=.busy,pending:=b.pending})={j with state:=.busy}:=by grind);rw[Z]at V;rw[Z]at F;refine wpIn_mono (hq w.heap.size (Fence.wide.inRound e.r) f1 a1 _ (Qc _) ⟨rfl,λl h=>by have:=qJf h;subst this;exact F.lps _ ⟨_,J⟩⟩ V (W.mono L.le) k3 (Marks.grow F _ k4)) ?_;rintro ex2 a2 w2⟨s,f2,⟨m,z,hs⟩,rfl,N,s2,s3,s4⟩;have D:=s2.le _ _ q;have⟨_,R,O,t2,t3,t4,t5,t6,t7,t8,t9,t10,t11⟩:=fP N D z;(have k:∀c,xo s.e=some c->r8 c=true:=by intro c I;cases n:s.e<;>rw[n]at I<;>simp[xo]at I<;>subst I<;>rfl);have⟨u1,u2⟩:=nF (if(xo s.e).isNone then .ready else .done) (xo s.e) k N D z O;have B:∃v Y,(Instr.endRound e.r (xo s.e)).run P w2=.ok v Y/\Comes P f H w Q (.returned v) Y:=⟨_,_,run_endRound (xo s.e) O,⟨_,_,f2,rfl,hs,u1,((L.trans F).trans s2).trans u2,.base _ rfl⟩⟩;cases n:s.e with|_=>rw[n]at B;exact B
theorem Setup.qDF(s:Setup P good nat G){v S e b J}(hv:yG G v=true)(hx:codeOk G true x=true)(Y:codeOk G true y=true)(u:env.val v=.func (.func g) e b)(E:entered P g=true)(q:yY P G g (xx e.toList (.func (.yield H.size) #[] #[]::b.toList)) (H.push (.loop {state:=.ready,pending:=none,fn:=0,tmps:=env.toArray,params:=S,assign:=x,body:=y,defers:=0})) J)(hq:∀r,J r->(au (iex P good nat 2) H.size env r).holds Q):Holds P G rd (.rangeFunc v S x y) env H Q:=by classical intro B F f a w hF m Z M D X;let L:=xx e.toList (.func (.yield H.size) #[] #[]::b.toList);let R:=H.push (.loop {state:=.ready,pending:=none,fn:=0,tmps:=env.toArray,params:=S,assign:=x,body:=y,defers:=0});let i:qi:=λK=>if K=g then some (λargs z=>if args=L/\z=R then .sp J .ret else .fail)else none;(have V:vw P G i:=by intro K k C args h z U W N n o t d;simp only[i]at C;split at C;{rename_i O;subst O;cases C;change T.holds N (if args=L/\z=R then T.sp J T.ret else T.fail)at d;split at d;{rename_i I;obtain⟨rfl,rfl⟩:=I;exact(q.mono λr m=>d r m) h U W n o t};exact d.elim};grind);let A:Job->IH->T Out:=λj H=>match j with|.code c env=>iex P good nat 2 (.code c env) H|_=>.fail;(have I:vq P G (yJ A i):=by intro K args h z U W N n o t d;unfold yJ at d;split at d;{rename_i k C;exact V K k C args h z U W N n o t d};exact d.elim);refine F8 I (((Aq s.ext s.spec s.good (λ_ _ I m=>Fi s.mix I m) 2).1)) hF m Z M (dN M hv) (xN M _ _ hx) (xN M _ _ Y) D X ?_;unfold fF;rw[u];simp[E];unfold yJ;simp[i,L,R];exact λr m=>hq r m
end Go.Idl
namespace Go.Idl
variable{P:T'}
variable{H H':IH}{b hi i lo pM:Nat}{el st:B'}{fz:Nat×Nat}{o:Obj}{rows vs:List P'}{v:P'}{z:Int}{zs:List Int}{GX:List (List Int)}
def Grown(H:IH)(el:B')(lo)(v:P')(vs):=(vs=[]/\v=.slice none 0 0)\/∃b,lo<=b/\b<H.size/\v=.slice (some ⟨b,0,some el⟩) vs.length vs.length/\H.get b=some (.cells vs.toArray el zb)
theorem Grown.nil(H el lo):Grown H el lo (.slice none 0 0) []:=.inl ⟨rfl,rfl⟩
theorem Tl(h:H.get b=some (.cells vs.toArray el fz)):H.loads b 0 vs.length=some vs:=by unfold IH.loads;rw[h];simp
theorem mZ(a:b<H.size):(H.push o).get b=H.get b:=by rw[IH.y6,if_neg (by omega)]
theorem QQ:(H.push o).get H.size=some o:=by rw[IH.y6,if_pos rfl]
theorem uk{x}(h:x≠b):(H.put b o).get x=H.get x:=by rw[IH.get_put,if_neg h]
theorem Qd:(H.put b o).get b=some o:=by rw[IH.get_put,if_pos rfl]
def qBq(H:IH)(el lo hi)(v:P')(zs):=(zs=[]/\v=.slice none 0 0)\/∃b c a fz,lo<=b/\b<hi/\b<H.size/\v=.slice (some ⟨b,0,c⟩) zs.length a/\H.get b=some (.cells (zs.map (Value.int .i64)).toArray el fz)
def Em(H el lo hi)(rows:List P')(GX:List (List Int)):=rows.length=GX.length/\∀(i:Nat)r zs,rows[i]?=some r->GX[i]?=some zs->qBq H el lo hi r zs
theorem Em.nil(H el lo hi):Em H el lo hi [] []:=⟨rfl,λi r zs h=>by simp at h⟩
end Go.Idl
namespace Go.Idl
variable{P:T'}{good:C'->Bool}{nat:qi}{G:Nat->Bool}{rd:Bool}
variable{H H1:IH}{I:Nat->Env->IH->Prop}{J:Env->IH->Prop}{Q:Out->Prop}{ds:List (Option Tmp)}{env jB gg:Env}{id id' n P3:Nat}{o:I'}{ops:Array I'}{t:Bool}{u:B'}{v:K'}{x x2 y:Code}
theorem Setup.ifZ(s:Setup P good nat G)(b:yX G ops=true)(c:ops.toList.map (·.dst)=ds)(h:jf P (iex P good nat 0) nat ds ops.toList env H=.ret (gg,H1))(a:yG G v=true)(d:gg.val v=.bool t)(f:t=true->Holds P G rd x gg H1 Q)(e:t=false->Holds P G rd x2 gg H1 Q):Holds P G rd (.seq (.region P3 ops false) (.cond v x x2)) env H Q:=s.UU 0 b c h (.cond a d f e)
theorem Mj{x y t}:zl P o ⟨.builtin .append,#[x,y],#[t,u]⟩ env H=(match wh P #[t,u] [env.val x,env.val y] H with|some r=>some r|none=>qn P o env H):=rfl
theorem Ep{x y t}:zl P o ⟨.builtin .copy,#[x,y],#[t,u]⟩ env H=(match uK P #[t,u] [env.val x,env.val y] H with|some r=>some r|none=>qn P o env H):=rfl
theorem AB:bw (some H)=some (.val undef H):=rfl
end Go.Idl
namespace Go.Idl
variable{P:T'}
end Go.Idl
namespace Go.Idl
variable{P:T'}
end Go.Idl
namespace Go.Idl
variable{P:T'}{good:C'->Bool}{nat:qi}{G:Nat->Bool}{rd:Bool}
end Go.Idl
namespace Go.Idl
variable{P:T'}
end Go.Idl
namespace Go.Idl
variable{P:T'}
variable{H:IH}{b i lo:Nat}{el st:B'}{k:L'}{v:P'}{x:Int}{zs:List Int}
def OwnAt(H:IH)(el lo)(v:P')(zs:List Int):=∃b c a,lo<=b/\b<H.size/\v=.slice (some ⟨b,0,c⟩) zs.length zs.length/\H.get b=some (.cells (zs.map (Value.int .i64)).toArray el a)/\vS a=true
theorem Grown.own(h:Grown H el lo v (zs.map (Value.int .i64)))(c:zs≠[]):OwnAt H el lo v zs:=by rcases h with⟨a,_⟩|⟨b,a,e,rfl,d⟩;{simp at a;exact absurd a c};exact⟨b,some el,zb,a,e,by rw[qJX],d,rfl⟩
end Go.Idl
namespace Go.Idl
variable{P:T'}{good:C'->Bool}{nat:qi}{G:Nat->Bool}{rd:Bool}
variable{H H1 HA:IH}{Q:Out->Prop}{ds:List (Option Tmp)}{env gg qDG:Env}{id:Nat}{l:List I'}{lo:List (Nat×Nat×Nat)}{o:I'}{ops:Array I'}{v:P'}
def Keeps(H a:IH):=∀b o,H.get b=some o->a.get b=some o
theorem Keeps.trans{c}(a:Keeps H H1)(b:Keeps H1 c):Keeps H c:=λx o h=>b x o (a x o h)
end Go.Idl
namespace Go.Idl
variable{P:T'}{good:C'->Bool}{nat:qi}{G:Nat->Bool}{rd:Bool}
variable{H H1 HA:IH}{Q:Out->Prop}{ds:List (Option Tmp)}{env gg qDG:Env}{hF hs:List IH}{id:Nat}{l:List I'}{lo:List (Nat×Nat×Nat)}{o:I'}{ops:Array I'}
end Go.Idl
namespace Go.Idl
variable{P:T'}
variable{H:IH}{b i n:Nat}{el t:B'}{fz:Nat×Nat}{l:List P'}{v:P'}
theorem JX(a:kp P t=some false)(h:H.get b=some (.cells l.toArray el fz))(c:l[i]?=some v):jI P t (.pointer (some ⟨b,i,none⟩)) H=some v:=by refine IN a ?_;unfold IH.load;rw[h];simpa using c
theorem Tg(d:szT P t=some 1)(c:v.cells=#[v])(e:oneCell v=true)(h:H.get b=some (.cells l.toArray el fz))(f:i<l.length)(g:vS fz=true)(a:H.base<=b):uw P t (.pointer (some ⟨b,i,none⟩)) v H=some (H.put b (.cells (l.set i v).toArray el fz)):=by unfold uw;simp only[d,c];rw[if_pos (by rfl)];unfold IH.stores;rw[h];simp only;rw[if_pos];{congr 3;apply qLZ;show overwrite l i [v]=_;unfold overwrite;simp only[List.length_singleton];rw[qKQ,if_pos f];simp};simp[g,a,e];omega
end Go.Idl
namespace Go.Idl
variable{P:T'}{good:C'->Bool}{nat:qi}{G:Nat->Bool}{rd:Bool}
variable{H H':IH}{Q:P'×IH->Prop}{args:List P'}{env:Env}{r:P'×IH}{v:P'}{x y:Code}{zs:List Int}
open Classical in noncomputable def tG(b:Nat)(a:List P')(d:IH)(c:P'×IH->Prop):Nat->List P'->IH->T (P'×IH):=λl args H=>if l=b/\args=a/\H=d then .sp c .ret else .fail
theorem Lg{l}:tG l args H Q l args H=.sp Q .ret:=by grind[tG]
theorem TU{l}(h:eE P G l args H Q):E2 P G (tG l args H Q):=by intro f b H' e a;unfold tG at a;split at a;{rename_i c;have⟨rfl,rfl,rfl⟩:=c;exact h.mono λr d=>a r d};exact a.elim
theorem TA{o f args a l}(b:env.val f=.func (.yield l) #[] #[]):zl P o ⟨.value f,args,a⟩ env H=some (.round l (qp env.val args.toList) H):=by(have:yk P ⟨.value f,args,a⟩ env H=some (.round l (qp env.val args.toList) H):=by grind[yk]);grind[zl]
theorem lY{l}:np (W2 (tG l args H Q)) nat (some (.round l args H))=.sp Q .ret:=by rw[Sq,Lg];rfl
structure Fr(T:Nat->Prop)(H H':IH):Prop where
 size:H.size<=H'.size
 base:H'.base=H.base
 get:∀b,b<H.size->¬T b->H'.get b=H.get b
theorem Fr.trans{T g H e d}(a:Fr T H e)(b:Fr g e d)(i:∀x,x<H.size->g x->T x):Fr T H d:=⟨qJ5 a.size b.size,b.base.trans a.base,λx c f=>(b.get x (qJM c a.size) λh=>f (i x c h)).trans (a.get x c f)⟩
theorem Setup.qDH(s:Setup P good nat G){v h H Q g b a}(i:yG G v=true)(k:codeOk G true x=true)(j:codeOk G true y=true)(e:env.val v=.func (.func g) b a)(d:entered P g=true)(n:∀c:Loop,c.state=.ready->c.pending=none->c.tmps.toList=env->c.params=h->c.assign=x->c.body=y->∃f,yY P G g (xx b.toList (.func (.yield H.size) #[] #[]::a.toList)) (H.push (.loop c)) f/\∀r,f r->(au (iex P good nat 2) H.size env r).holds Q):Holds P G rd (.rangeFunc v h x y) env H Q:=by have⟨f,m,l⟩:=n {state:=.ready,pending:=none,fn:=0,tmps:=env.toArray,params:=h,assign:=x,body:=y,defers:=0} rfl rfl rfl rfl rfl rfl;exact s.qDF i k j e d m l
theorem Ih{l a c Q}(g:r.2.get l=some (.loop a))(f:a.state=.ready)(d:a.pending=none)(e:∀b,Q ⟨.normal,env,r.2.put l (.loop b)⟩):(au c l env r).holds Q:=by cases a;subst f d;unfold au;rw[g];exact e _
structure qDI(n:Nat)(H H':IH):Prop where
 size:H.size<=H'.size
 base:H'.base=H.base
 get:∀b,b<H.size->(b<n\/∀lp,H.get b≠some (.loop lp))->H'.get b=H.get b
theorem Old.l(h:Old H H')(n):qDI n H H':=⟨h.size,h.base,λb a _=>h.get b a⟩
end Go.Idl
