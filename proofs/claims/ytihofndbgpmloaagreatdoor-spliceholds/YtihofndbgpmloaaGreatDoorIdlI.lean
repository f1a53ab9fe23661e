/- The soundness of ideal runs, and rules for their use. Conditions: none. -/
import Derived.Test.YtihofndbgpmloaaGreatDoorIdlF
set_option linter.all false
namespace Go.Idl
variable{P:T'}{good:C'->Bool}{nat:qh}
variable{G:Nat->Bool}
def eH:qh:=λ_=>none
theorem l9:jc eH:=by intro f k h;cases h
theorem T8:v_ P G eH:=by intro f k h;cases h
end Go.Idl
namespace Go.Idl
variable{P:T'}{good:C'->Bool}{nat:qh}
variable{H:IH}{f f1:Inj}{g:C'}{k:List P'->IH->Option P'}{w:J'}
structure Old(H H':IH):Prop where
 size:H.size<=H'.size
 base:H'.base=H.base
 get:∀b,b<H.size->H'.get b=H.get b
theorem Old.refl(H):Old H H:=⟨qJb _,rfl,λ_ _=>rfl⟩
theorem Old.trans{H c e}(a:Old H c)(b:Old c e):Old H e:=⟨qJy a.size b.size,b.base.trans a.base,λx d=>(b.get x (qJf d a.size)).trans (a.get x d)⟩
theorem Old.push(H o):Old H (H.push o):=⟨by simp,rfl,λx a=>by rw[IH.y8,if_neg (by omega)]⟩
theorem Rel.qDd{r s c I G}(p:Rel P f H w)(L:w.heap[r]?=some (.cells c I G))(K:∀b e,f b=some e->e.r=r->e.ro=true)(E C)(O:s+E.size<=c.size)(Q:∀(i)v,E[i]?=some v->∃B,c[s+i]?=some B/\qK P f v B):Rel P (f.add H.size ⟨r,s,c.size,true⟩) (H.push (.cells E C (0,1))) w/\f.le (f.add H.size ⟨r,s,c.size,true⟩):=by have m:=Qw p;have n:f.le (f.add H.size ⟨r,s,c.size,true⟩):=Inj.aF m;refine⟨⟨?_,?_,?_,?_,?_,?_⟩,n⟩;{intro b e a;by_cases d:b=H.size;{simp_all};rw[Inj.zI d]at a;have:=p.dom b e a;simp;omega};{intro b a;simp[IH.size_push]at a;rw[IH.y8,if_neg (by omega)];exact p.fresh b (by omega)};{intro b e a;by_cases d:b=H.size;{grind[Inj.add_same]};rw[Inj.zI d]at a;exact p.bound b e a};{intro b e o a A;by_cases d:b=H.size;{subst d;rw[Inj.add_same]at a;cases a;rw[IH.y8,if_pos rfl]at A;cases A;refine⟨c,I,G,L,rfl,O,λi v R=>?_,λh=>by grind[vT],λh=>by grind⟩;have⟨B,l,j⟩:=Q i v R;exact⟨B,l,j.mono n⟩};rw[Inj.zI d]at a;rw[IH.y8,if_neg d]at A;exact(p.obj b e o a A).mono n};{intro u t d D U N y l j J F S M q;by_cases z:u=H.size;{subst z;rw[Inj.add_same]at l;rw[Inj.zI (Ne.symm y)]at j;grind};rw[Inj.zI z]at l;by_cases x:t=H.size;{subst x;rw[Inj.add_same]at j;grind};rw[Inj.zI x]at j;rw[IH.y8,if_neg z]at J;rw[IH.y8,if_neg x]at F;exact p.sep u t d D U N y l j J F S M q};intro u t d D l j q;by_cases z:u=H.size;{grind[Inj.add_same,Inj.zI]};rw[Inj.zI z]at l;by_cases x:t=H.size;{grind[Inj.add_same]};rw[Inj.zI x]at j;exact p.jW u t d D l j q
end Go.Idl
namespace Go.Idl
variable{P:T'}{good:C'->Bool}{nat:qh}{rd:Bool}
variable{G:Nat->Bool}{H:IH}{Q:Out->Prop}{c:Code}{env gV:Env}{f:Inj}{l:List (Nat×Obj)}{w:J'}
def Holds(P G rd)(c:Code)(env:Env)(H Q):=∀(B:Nat)(F:Fence)(f:Inj)(a:Act)(w:J'),zv F->ve rd F w->Rel P f H w->za G f->qM P f env a.tmps.toList->Marks B f w a.defers->c.wpIn F 0 P (ym P B f H w Q) a w
structure Setup(P:T')(good:C'->Bool)(nat:qh)(G:Nat->Bool):Prop where
 mix:P.follows .mixedOrders=true
 ext:jc nat
 spec:v_ P G nat
 good:Yb P good G
theorem Setup.run(s:Setup P good nat G)(n)(e:codeOk G rd c=true)(h:(iex P good nat n (.code c env) H).holds Q):Holds P G rd c env H Q:=by intro B F f a w j d k g b i;exact(BI s.ext s.spec s.good (λ_ _ e d=>A3 s.mix e d) n).1 B F rd c env H f a w Q j d k g (xN g _ _ e) b i h
theorem T9{g j b a Q}(y:P.funcs[g]?=some j)(I:j.body=some c)(D:Rel P f H w)(J:za G f)(C:qM P f b a)(h:Holds P G false c (b++List.replicate (j.ntmps-b.length) undef) H λo=>(o.e=.normal\/o.e=.ret)/\∃v,w9 P j o.env o.H=some v/\Q (v,o.H)):CallsIn Fence.wide 0 P g a.toArray w (Comes P f H w Q):=by(have p:qM P f (b++List.replicate (j.ntmps-b.length) undef) (a.toArray++Array.replicate (j.ntmps-a.toArray.size) undef).toList:=by(have N:(a.toArray++Array.replicate (j.ntmps-a.toArray.size) undef).toList=a++List.replicate (j.ntmps-b.length) undef:=by simp[C.1]);rw[N];refine C.append ?_;(have X:∀n,qM P f (List.replicate n undef) (List.replicate n undef):=by intro n;induction n with|zero=>exact .nil|succ n E=>exact .cons .undef E);grind);refine callsIn_of_wp_marks y I trivial (wpIn_mono (h w.heap.size Fence.wide f _ w B2 (.none rfl) D J p (qJb _)) ?_);rintro e x B⟨o,V,⟨t,v,F,K⟩,rfl,W,i,O,z⟩;(have q:LeavesInM Fence.wide 0 P j x.tmps (Comes P f H w Q) x.defers .returning B:=by refine Kb x.defers B W z λY s m u k=>?_;have⟨A,S,M⟩:=Fi O s F;refine⟨A,S,A,(v,o.H),V,rfl,K,s,⟨i.ku,i.stay,i.le,by rw[u];exact i.size,λr R L=>?_,i.un,⟨k.1.trans i.out.1,k.2.1.trans i.out.2.1,k.2.2.trans i.out.2.2⟩,λr h=>⟨(i.lps r h).choose,(m r (λd U=>rB _ z r h.lt d U)).trans (i.lps r h).choose_spec⟩⟩,M⟩;have⟨q1,Z⟩:=i.keep r R L;grind[rB]);rcases t with t|t<;>(rw[t];exact q)
noncomputable def iZ(l:List (Nat×Obj)):Tr Obj:=List.rec .nil (λp _ a=>a.set p.1 p.2) l
noncomputable def oY(l:List (Nat×Obj))(n:Nat):IH:=⟨iZ l,n,0,[]⟩
end Go.Idl
namespace Go.Idl
variable{P:T'}{good:C'->Bool}{nat:qh}{G:Nat->Bool}{rd:Bool}
variable{H:IH}{Q:Out->Prop}{env:Env}{id:Nat}{x y:Code}
theorem Holds.mono{c d}(h:Holds P G rd c env H Q)(j:∀o,Q o->d o):Holds P G rd c env H d:=by intro B F f a w i k l g b m;exact wpIn_mono (h B F f a w i k l g b m) λe a w=>dK (.refl _ _ _) j
theorem Holds.Nt{Q1}(z:Holds P G rd x env H Q1)(u:∀o,Q1 o->o.e=.normal->Holds P G rd y o.env o.H Q)(t:∀o,Q1 o->o.e≠.normal->Q o):Holds P G rd (.seq x y) env H Q:=by intro B F f a w j m v n b q;refine wpIn_seq (wpIn_mono (z B F f a w j m v n b q) ?_);rintro e r s⟨o,p,d,rfl,i,c,l,g⟩;cases k:o.e with|normal=>exact wpIn_mono (u o d k B F p r s j (m.mono c.lps) i (n.mono c.le) l g) λe a w=>dK c λ_ h=>h|_=>exact⟨o,p,t o d (by grind),by rw[k],i,c,l,g⟩
theorem Holds.Nu{Q1:Env->IH->Prop}(d:Holds P G rd x env H λo=>o.e=.normal/\Q1 o.env o.H)(c:∀a b,Q1 a b->Holds P G rd y a b Q):Holds P G rd (.seq x y) env H Q:=.Nt d (λ_ h _=>c _ _ h.2) (λ_ h e=>absurd h.1 e)
theorem Holds.cond{v t}(d:yH G v=true)(l:env.val v=.bool t)(k:t=true->Holds P G rd x env H Q)(m:t=false->Holds P G rd y env H Q):Holds P G rd (.cond v x y) env H Q:=by intro B F f a w g h i e b j;have c:=po b (dO e d);rw[l]at c;refine wpIn_cond c.tA ?_;cases t with|true=>exact k rfl B F f a w g h i e b j|false=>exact m rfl B F f a w g h i e b j
def Vq(id)(Q:Out->Prop)(o:Out):=match o.e with|.exit a=>if a=id then Q ⟨.normal,o.env,o.H⟩else Q o|_=>Q o
theorem Holds.block(s:Holds P G rd x env H (Vq id Q)):Holds P G rd (.block id x) env H Q:=by intro B F f a w n q r p d t;refine wpIn_block (wpIn_mono (s B F f a w n q r p d t) ?_);rintro e v u⟨o,m,c,rfl,j,i,h,k⟩;unfold Vq at c;cases g:o.e with|exit l=>rw[g]at c;simp[rj,Exit.inBlock];simp at c;by_cases b:l=id;{rw[if_pos b];rw[if_pos b]at c;exact⟨⟨.normal,o.env,o.H⟩,m,c,rfl,j,i,h,k⟩};rw[if_neg b];rw[if_neg b]at c;exact⟨o,m,c,by rw[g];rfl,j,i,h,k⟩|_=>rw[g]at c;exact⟨o,m,c,by rw[g],j,i,h,k⟩
theorem Holds.skip(h:Q ⟨.normal,env,H⟩):Holds P G rd .skip env H Q:=by intro B F f a w g i d e b c;exact wpIn_skip (au d b c h)
theorem Holds.label{l}(h:Q ⟨.normal,env,H⟩):Holds P G rd (.label l) env H Q:=by intro B F f a w g i d e b c;exact wpIn_label (au d b c h)
theorem Holds.ret(h:Q ⟨.ret,env,H⟩):Holds P G rd .ret env H Q:=by intro B F f a w g i d e b c;exact wpIn_ret (au d b c h)
theorem Holds.exit(h:Q ⟨.exit id,env,H⟩):Holds P G rd (.exit id) env H Q:=by intro B F f a w g i d e b c;exact wpIn_exit (au d b c h)
theorem Holds.scope(g:Holds P G rd x env H λo=>(∀l,o.e≠.goto l)/\Q o):Holds P G rd (.scope x) env H Q:=by intro B F f a w j m q d b c;refine F6 (wpIn_mono (g B F f a w j m q d b c) ?_);rintro e t v⟨o,s,⟨u,n⟩,rfl,i,r,p,h⟩;cases k:o.e with|goto l=>grind|_=>exact⟨o,s,n,by rw[k],i,r,p,h⟩
theorem Holds.loop(I:Nat->Env->IH->Prop)(D:∀n env H,I n env H->Holds P G rd x env H λo=>match o.e with|.normal=>∃m,m<n/\I m o.env o.H|_=>Q o){n env H}(h:I n env H):Holds P G rd (.loop x) env H Q:=by intro B F f a w M O U Y i X;let J:Act->J'->Nat->Prop:=λd c m=>∃b j g,I m b j/\Rel P g j c/\Grow f H w g j c/\qM P g b d.tmps.toList/\Marks B g c d.defers;refine wpIn_loop (λd c=>∃m,J d c m) (λd c=>least (J d c)) ⟨n,env,H,f,h,U,.refl _ _ _,i,X⟩ ?_;intro d c R;have⟨⟨b,j,g,N,K,l,V,E⟩,C⟩:=Qa R;generalize W:least (J d c)=m at*;refine wpIn_mono (D m b j N B F g d c M (O.mono l.lps) K (Y.mono l.le) V E) ?_;rintro e S Z⟨o,z,k,rfl,u,A,v,t⟩;cases q:o.e with|normal=>rw[q]at k;have⟨p,L,s⟩:=k;have r:J S Z p:=⟨o.env,o.H,z,s,u,l.trans A,v,t⟩;exact⟨⟨p,r⟩,by have:=(Qa ⟨p,r⟩).2 p r;grind⟩|_=>rw[q]at k;exact⟨o,z,k,by rw[q],u,l.trans A,v,t⟩
theorem Setup.region(s:Setup P good nat G)(n){id a env b H c Q}(d:yZ G a=true)(h:gL P (iex P good nat n) nat a a.toList env H=.ret (b,c))(f:Q ⟨.normal,b,c⟩):Holds P G rd (.region id a false) env H Q:=by refine s.run (n+1) (by grind[codeOk]) ?_;have e:iex P good nat (n+1) (.code (.region id a false) env) H=(gL P (iex P good nat n) nat a a.toList env H).bind λr=>.ret ⟨.normal,r.1,r.2⟩:=rfl;rw[e,h];exact f
theorem Setup.draw(s:Setup P good nat G)(n){a b c}(d:yZ G a=true)(g:j7 a=true)(h:hD P (iex P good nat n) nat a env H=some (b,c))(f:Q ⟨.normal,b,c⟩):Holds P G rd (.region id a true) env H Q:=by refine s.run (n+1) (by grind[codeOk]) ?_;have e:iex P good nat (n+1) (.code (.region id a true) env) H=ZP (hD P (iex P good nat n) nat a env H):=rfl;rw[e,h];exact f
end Go.Idl
namespace Go.Idl
variable{P:T'}{good:C'->Bool}{nat:qh}{G:Nat->Bool}{rd:Bool}
variable{H:IH}{c:Code}{env:Env}{f:Inj}{fn:Func}{g:C'}{n:Nat}{v:P'}{w:J'}
theorem Rel.same{a}(h:Rel P f H w)(l:w.heap.size<=a.heap.size)(k:∀r,r<w.heap.size->a.heap[r]?=w.heap[r]?)(d:a.os=w.os/\a.output=w.output/\a.tape=w.tape):Rel P f H a/\Grow f H w f H a:=⟨⟨h.dom,h.fresh,λb e i=>qJf (h.bound b e i) l,λb e o i j=>by rw[k _ (h.bound b e i)];exact h.obj b e o i j,h.sep,h.jW⟩,⟨qJb _,λ_ _ h=>h,f.le_refl,l,λr m j=>⟨j,k r m⟩,λ_ _ h=>h,d,λr h=>⟨h.choose,(k r h.lt).trans h.choose_spec⟩⟩⟩
def nU(n:Nat):Inj:=λg=>cond (Nat.blt g n) (some ⟨g,0,sX g,true⟩) none
def qn(n):=λg=>Nat.blt g n
theorem ad{g e}(h:nU n g=some e):g<n/\e=⟨g,0,sX g,true⟩:=by unfold nU at h;cases a:Nat.blt g n with|false=>grind|true=>simp_all
theorem S4(n):za (qn n) (nU n):=by intro g a;have b:Nat.blt g n=true:=a;rw[QW];exact⟨⟨g,0,sX g,true⟩,by grind[nU],rfl,rfl,qCM g⟩
end Go.Idl
namespace Go.Idl
variable{P:T'}{good:C'->Bool}{nat:qh}{rd:Bool}
theorem av{α}(a)(l:List α):qT (a::l) 0=some a:=Eq.trans rfl rfl
theorem al{α}(a)(l:List α)(n):qT (a::l) (n+1)=qT l n:=Eq.trans rfl rfl
theorem mj{α}(a b)(l:List α):qZ (a::l) 0 b=b::l:=Eq.trans rfl rfl
theorem mw{α}(a b)(l:List α)(n):qZ (a::l) (n+1) b=a::qZ l n b:=Eq.trans rfl rfl
theorem nW(a:Env)(t):a.val (.tmp t)=(qT a t).getD undef:=Eq.trans rfl rfl
theorem Ar(a:Env)(v):a.val (.const v)=v:=Eq.trans rfl rfl
theorem By(a:Env)(f):a.val (.func f)=.func (.func f) #[] #[]:=rfl
theorem mi(a:Env)(t v):a.zW (some t) v=qZ a t v:=Eq.trans rfl rfl
theorem Be(a:Env)(v):a.zW none v=a:=Eq.trans rfl rfl
theorem nD{a v H}:np a nat (some (.val v H))=.ret (v,H):=Eq.trans rfl rfl
theorem Te{b g a H}:np b nat (some (.enter g a H))=yM b nat g a H:=Eq.trans rfl rfl
section
variable{o:I'}{t:B'}{k:L'}{a b:Int}{env:Env}{H:IH}
theorem fJ{c v}(h:wo c k a b=some v):zr P o c t (.int k a) (.int k b) env H=some (.val v H):=by unfold zr uR asI;simp_all
theorem EJ:zr P o .lss t (.int k a) (.int k b) env H=some (.val (.bool (decide (a<b))) H):=fJ rfl
theorem Dc:zr P o .leq t (.int k a) (.int k b) env H=some (.val (.bool (decide (a<=b))) H):=fJ rfl
theorem DJ:zr P o .gtr t (.int k a) (.int k b) env H=some (.val (.bool (decide (b<a))) H):=fJ rfl
theorem DS:zr P o .geq t (.int k a) (.int k b) env H=some (.val (.bool (decide (b<=a))) H):=fJ rfl
theorem EE:zr P o .eql t (.int k a) (.int k b) env H=some (.val (.bool (a==b)) H):=fJ rfl
theorem qAv:zr P o .neq t (.int k a) (.int k b) env H=some (.val (.bool (a !=b)) H):=fJ rfl
theorem Ds:zr P o .add t (.int k a) (.int k b) env H=some (.val (.int k (k.wrap (a+b))) H):=fJ rfl
theorem DM:zr P o .sub t (.int k a) (.int k b) env H=some (.val (.int k (k.wrap (a-b))) H):=fJ rfl
theorem B9{c x y}:bo (.bool c) x y H=some (.val (cond c x y) H):=rfl
end
theorem iC{t b i H v}(a:kU P t=some false)(h:H.load b i=some v):jD P t (.pointer (some ⟨b,i,none⟩)) H=some v:=by grind[jD]
noncomputable def enters(P:T')(g:C'):Bool:=match P.funcs[g]? with|some a=>a.body.isSome&&(a.name != "runtime.NumGoroutine")|none=>false
theorem JQ{o f c e d H g b a}(h:d.val f=.func (.func g) b a)(i:enters P g=true):zo P o ⟨.value f,c,e⟩ d H=some (.enter g (kB b.toList (kB (qo d.val c.toList) a.toList)) H):=by(have:yo P ⟨.value f,c,e⟩ d H=some (.enter g (kB b.toList (kB (qo d.val c.toList) a.toList)) H):=by grind[enters,yo]);grind[zo]
end Go.Idl
namespace Go.Idl
variable{P:T'}{good:C'->Bool}{nat:qh}{G:Nat->Bool}{rd:Bool}
theorem Setup.qDe(s:Setup P good nat G)(n){id b y c a H f Q}(d:yZ G b=true)(h:gL P (iex P good nat n) nat b b.toList c H=.ret (a,f))(g:Holds P G rd y a f Q):Holds P G rd (.seq (.region id b false) y) c H Q:=Holds.Nu (Q1:=λe h=>e=a/\h=f) (s.region n d h ⟨rfl,rfl,rfl⟩) λe h⟨i,j⟩=>by grind
noncomputable def Y9(w:Bool):Option P'->Option Bool|some v=>WU w v|none=>none
noncomputable def oH(w:Bool)(a:Env):Option Tmp->Option Bool|some t=>Y9 w (qT a t)|none=>some false
theorem Ad{w a t}:oH w a (some t)=Y9 w (qT a t):=rfl
theorem AX{w b}:Y9 w (some (.bool b))=some (b==w):=rfl
theorem Fs{w}:Y9 w (some undef)=some false:=rfl
theorem MQ{o g a d b H}(c:enters P g=true):zo P o ⟨.value (.func g),a,d⟩ b H=some (.enter g (qo b.val a.toList) H):=by rw[JQ rfl c];simp[fN]
theorem Cf{α β}(g:α->β):qo g []=[]:=rfl
theorem Bf{α β}(g:α->β)(a l):qo g (a::l)=g a::qo g l:=rfl
theorem XB{o x t a H}:zo P o ⟨.builtin .len,#[x],#[t]⟩ a H=(match km P #[t] [a.val x] H with|some r=>some r|none=>qk P o a H):=rfl
theorem A8{t e a n c H}(b:P.underlying t=some (.slice e)):km P #[t] [.slice a n c] H=some (.val (goInt n) H):=by unfold km;grind
theorem Cc{b}{t:Tmp}{a:Env}{H v}(c:b.results=#[.tmp t])(h:qT a t=some v):w9 P b a H=some v:=by grind[w9,bg,sE,one]
end Go.Idl
namespace Go.Idl
theorem Vi:(true==true)=true:=rfl
theorem WH:(true==false)=false:=rfl
theorem Vl:(false==true)=false:=rfl
theorem Vx:(false==false)=true:=rfl
end Go.Idl
namespace Go.Idl
variable{P:T'}{good:C'->Bool}{nat:qh}{G:Nat->Bool}{rd:Bool}
noncomputable def uB(a:List (Option Tmp))(j:Nat):Option Tmp:=match a[j]? with|some d=>d|none=>none
theorem Ko{d a}:uB (d::a) 0=d:=rfl
theorem A2{d a j}:uB (d::a) (j+1)=uB a j:=by simp[uB]
noncomputable def nE(b)(o:I')(a):=match o.guard with|none=>some true|some (j,w)=>oH w a (uB b j)
theorem Kg(c o b):vO c o b=nE (c.toList.map (·.dst)) o b:=by have⟨d,h,f,p,a,g⟩:=o;cases g with|none=>rfl|some e=>have⟨j,w⟩:=e;show oH w b _=oH w b _;grind[uB]
noncomputable def je(P:T')(b:Job->IH->T Out)(nat:qh)(c:List (Option Tmp)):List I'->Env->IH->T (Env×IH)|[],a,H=>.ret (a,H)|o::l,a,H=>xT (nE c o a) ((zh P b nat o a H).bind λr=>je P b nat c l (a.zW o.dst r.1) r.2) (je P b nat c l (a.zW o.dst undef) H) .fail
theorem ZE{c}(b):∀(l a H),gL P c nat b l a H=je P c nat (b.toList.map (·.dst)) l a H|[],a,H=>rfl|o::l,a,H=>by rw[JF];rw[Kg,ZE b l];congr 2;funext r;exact ZE b l _ _
theorem mg{f d e c p a b}:nE f ⟨d,e,c,p,a,none⟩ b=some true:=rfl
theorem Kj{c d f e p a b j w}:nE c ⟨d,f,e,p,a,some (j,w)⟩ b=oH w b (uB c j):=rfl
theorem Ju{b c a H}:je P b nat c [] a H=.ret (a,H):=Eq.trans rfl rfl
noncomputable def Wr(P b nat c d l)(a:Env)(t:T (P'×IH)):=t.bind λr=>je P b nat c l (a.zW d r.1) r.2
noncomputable def goE(P b nat d o l a H c):=xT c (Wr P b nat d o.dst l a (zh P b nat o a H)) (je P b nat d l (a.zW o.dst undef) H) .fail
theorem dT{b c o l a H}:je P b nat c (o::l) a H=goE P b nat c o l a H (nE c o a):=Eq.trans rfl rfl
theorem nM{b c o l a H}:goE P b nat c o l a H (some true)=Wr P b nat c o.dst l a (zh P b nat o a H):=Eq.trans rfl rfl
theorem B8{b c o l a H}:goE P b nat c o l a H (some false)=je P b nat c l (a.zW o.dst undef) H:=Eq.trans rfl rfl
theorem mr{b c d l a v H}:Wr P b nat c d l a (.ret (v,H))=je P b nat c l (a.zW d v) H:=Eq.trans rfl rfl
theorem Setup.U7(s:Setup P good nat G)(n){id a y c b H e Q f}(d:yZ G a=true)(g:a.toList.map (·.dst)=f)(h:je P (iex P good nat n) nat f a.toList c H=.ret (b,e))(i:Holds P G rd y b e Q):Holds P G rd (.seq (.region id a false) y) c H Q:=s.qDe n d (by grind[ZE]) i
theorem Setup.qDf(s:Setup P good nat G)(n){id a c b H e Q f}(d:yZ G a=true)(i:a.toList.map (·.dst)=f)(h:je P (iex P good nat n) nat f a.toList c H=.ret (b,e))(g:Q ⟨.normal,b,e⟩):Holds P G rd (.region id a false) c H Q:=s.region n d (by grind[ZE]) g
end Go.Idl
namespace Go.Idl
variable{P:T'}{good:C'->Bool}{nat:qh}{G:Nat->Bool}{rd:Bool}
end Go.Idl
namespace Go.Idl
end Go.Idl
namespace Go.Idl
variable{P:T'}
noncomputable def W0(P a v H):=qk P ⟨none,.unOp a 0 (.const v),0,"",#[],none⟩ [] H
theorem Ed{c t x d e p a g b H}:qk P ⟨d,.unOp c t x,e,p,a,g⟩ b H=W0 P c (b.val x) H:=rfl
theorem MB{n H}:W0 P .neg (.int .i64 n) H=some (.val (.int .i64 (IntKind.i64.wrap (0-n))) H):=rfl
theorem Eu{b H}:W0 P .not (.bool b) H=some (.val (.bool !b) H):=rfl
end Go.Idl
namespace Go.Idl
variable{P:T'}{good:C'->Bool}{nat:qh}{G:Nat->Bool}{rd:Bool}
def rE(nat:qh):=∀g k,nat g=some k->∀a H r,k a H=.ret r->r.2=H
theorem Aj:rE eH:=by intro g k h;cases h
def calm(o:I'):Bool:=match zS o with|.pure|.read|.call=>true|_=>false
theorem L4(z:rE nat){o e H r}(u:calm o=true)(h:zh P (iex P good nat 0) nat o e H=.ret r):r.2=H:=by(have m:∀s,iop P o e H=some s->(∃v,s=.val v H)\/(∃g a,s=.enter g a H)\/∃l a,s=.round l a H:=by intro s b;unfold calm at u;cases d:zS o with|pure=>have⟨v,t,_⟩:=JD d H s b;grind|read=>grind[J2]|call=>(have:∃f a n,o.op=.call ⟨.value f,a,n⟩:=by unfold zS at d;split at d<;>(simp_all);{grind};rename_i c x;split at d<;>(simp_all);have⟨j,a,n⟩:=c;grind);have⟨f,a,n,y⟩:=this;unfold iop at b;rw[y]at b;simp[zo]at b;split at b;{rename_i q p;unfold yo at p;grind};have⟨v,t,_⟩:=Loose.dry o e H s b;grind|alloc=>grind|fresh=>grind|write=>grind);unfold zh at h;cases b:iop P o e H with|none=>rw[b]at h;cases h|some s=>rw[b]at h;rcases m s b with⟨v,rfl⟩|⟨g,a,rfl⟩|⟨l,a,rfl⟩;{cases h;rfl};{have i:yM (iex P good nat 0) nat g a H=.ret r:=h;unfold yM at i;split at i;{rename_i k w;exact z g k w a H r i};cases i};cases h
structure DE(P:T')(lo:List (Nat×Nat×Nat))(l:List I')(i k:Nat)(env:Env)(H:IH)(eF:Env)(HF:IH)(hs:List IH)(rs:List Rec):Prop where
 heaps:∀m,m<=zl (l.take k)->(H::hs)[m]?=some H
 recs:∀r∈rs,∃j p,r.i=i+j/\l[j]?=some r.o/\kj r.i lo=some p/\(j<k->zS r.o=.read->iop P r.o r.env H=some (.val r.v H))/\(∀d,r.o.dst=some d->d<env.length->¬writes l (λk'=>j<k') d->eF.at d=r.v)
theorem Wh(S:rE nat){B lo}:∀(l i k a H f g),(∀o∈l,qw o=false)->(∀o∈l.take k,calm o=true)->je P (iex P good nat 0) nat (B.toList.map (·.dst)) l a H=.ret (f,g)->∃c b,bX P (iex P good nat 0) nat B lo l i a H=some (f,g,c,b)/\DE P lo l i k a H f g c b|[],i,k,a,H,f,g,_,_,h=>by cases h;refine⟨[],[],rfl,⟨λm u=>?_,λr e=>by cases e⟩⟩;simp[zl]at u;subst u;rfl|o::l,i,k,a,H,f,g,ha,hc,h=>by have C:=ha o qJm;rw[Ks,C];simp only[cond_false];rw[dT,<-Kg]at h;unfold goE xT at h;(have s:∀z∈l.take (k-1),calm z=true:=by intro z w;cases k with|zero=>simp at w|succ k=>grind);have F:∀z∈l,qw z=false:=λz w=>ha z (qJi _ w);(have t:∀(v)(K)(c)(b x),DE P lo l (i+1) (k-1) (a.zW o.dst v) K f g c b->(0<k->K=H)->(∀r∈x,r∈b\/(r.i=i/\r.o=o/\r.env=a/\r.v=v/\(∃p,kj i lo=some p)/\(0<k->zS o=.read->iop P o a H=some (.val v H))/\(∀d,o.dst=some d->d<a.length->¬writes l (λ_=>True) d->f.at d=v)))->DE P lo (o::l) i k a H f g (fP (zS o).eff K c) x:=by intro v K c b x J hH e;refine⟨λm u=>?_,λr hr'=>?_⟩;{cases k with|zero=>simp[zl]at u;subst u;rfl|succ k=>have V:=hH (by omega);subst V;rw[qLN,Qq]at u;simp only[qMT]at J;by_cases M:zV o=true;{have y:(zS o).eff=true:=M;rw[y];cases m with|zero=>rfl|succ m=>rw[if_pos M]at u;exact J.heaps m (by omega)};(have y:(zS o).eff=false:=by simpa[zV]using M);rw[y];rw[if_neg M]at u;exact J.heaps m (by omega)};rcases e r hr' with h1|⟨h1,h2,h3,h4,⟨p,h5⟩,h6,h7⟩;{obtain⟨j,p,g1,g2,g3,g4,g5⟩:=J.recs r h1;refine⟨j+1,p,by omega,by simpa using g2,g3,λhj s=>?_,λd D I E=>g5 d D (by rw[p9];exact I) ?_⟩;{grind};rintro⟨Y,N,q1,W,q3,q4⟩;exact E ⟨Y+1,N,by omega,by simpa using W,q3,q4⟩};refine⟨0,p,by omega,by simp[h2],by rw[h1];exact h5,λhj s=>?_,λd D I E=>?_⟩;{grind};rw[h4];refine h7 d (by rw[<-h2];exact D) I ?_;rintro⟨Y,N,_,W,q3,q4⟩;exact E ⟨Y+1,N,by omega,by simpa using W,q3,q4⟩);split at h;{rename_i Q;rw[Q];cases A:zh P (iex P good nat 0) nat o a H with|fail=>rw[A]at h;cases h|ch n k=>rw[A]at h;cases h|sp p k=>rw[A]at h;cases h|ret q=>rw[A]at h;obtain⟨c,b,L,O⟩:=Wh S l (i+1) (k-1) _ _ f g F s h;have Z:=pa l _ _ _ _ _ _ _ L;refine⟨fP (zS o).eff q.2 c,oB (kj i lo) i o a q.1 b,by simp only[xT,sD,aD,Y0,L],t q.1 q.2 c b _ O ?_ ?_⟩;{intro hk;cases k with|zero=>omega|succ k=>exact L4 S (hc o (by rw[qLN];exact qJm)) A};intro r e;unfold oB at e;split at e;{rename_i p U;rcases qKN.1 e with rfl|e;{refine .inr ⟨rfl,rfl,rfl,rfl,⟨p,U⟩,λhk R=>?_,λd D I E=>?_⟩;{(have X:zV o=false:=by unfold zV;rw[R];rfl);obtain⟨g1,g2⟩:=JV X C A;exact g2};rw[Z.keep d E,D,Qb I]};exact .inl e};exact .inl e};{rename_i Q;rw[Q];obtain⟨c,b,L,O⟩:=Wh S l (i+1) (k-1) _ _ f g F s h;exact⟨fP (zS o).eff H c,b,by simp only[xT,sC,L],t undef H c b _ O (λ_=>rfl) λr e=>.inl e⟩};cases h
def simple:P'->Bool|.int _ _=>true|.bool _=>true|.slice _ _ _=>true|.pointer _=>true|.map _=>true|_=>false
theorem Tq{v}(h:simple v=true):veq v v=true:=by(cases v<;>first|cases h|skip);(case bool b=>cases b<;>rfl);(case int k n=>show(k==k&&n==n)=true;simp);(case pointer a=>show(a==a)=true;simp);(case map a=>show(a==a)=true;simp);case slice a l c=>show(a==a&&(l==l&&c==c))=true;simp
noncomputable def bw(a:Array I')(i:Nat):=((a[i]?).bind (·.dst)).getD 0
def Ag(a:List (Nat×Nat×Nat))(k n):=a.all λp=>decide (p.1<k)&&decide (p.2.2<=n)
theorem B3{i p}:∀(l),kj i l=some p->(i,p)∈l|[],h=>by cases h|a::l,h=>by have b:kj i (a::l)=cond (Nat.beq a.1 i) (some a.2) (kj i l):=rfl;rw[b]at h;cases c:Nat.beq a.1 i with|true=>grind[Nat.eq_of_beq_eq_true]|false=>rw[c]at h;exact qJi _ (B3 l h)
theorem T1{a i p}(h:(i,p)∈loose a){o}(b:a[i]?=some o):zS o=.read:=by grind[loose,Zr]
theorem BU{b c r}:∀(a m),(∀k E,a[k]?=some E->b<=m+k->m+k<=c->dp r.v (iop P r.o r.env E)=true)->gu P b c r a m=true|[],_,_=>rfl|h::a,m,d=>by have e:gu P b c r (h::a) m=cond (Nat.ble b m&&Nat.ble m c) (cond (dp r.v (iop P r.o r.env h)) (gu P b c r a (m+1)) false) (gu P b c r a (m+1)):=rfl;rw[e,(BU a (m+1) λk E j g i=>d (k+1) E (by grind) (by omega) (by omega))];cases f:(Nat.ble b m&&Nat.ble m c)with|false=>rfl|true=>simp only[qJa]at f;rw[d 0 h rfl (qJg f.1) (qJg f.2)];rfl
theorem AK:∀(l a H),(∀o∈l,qw o=false)->h_ P l a H=some (a,H)|[],_,_,_=>rfl|o::l,a,H,h=>by unfold h_;rw[h o qJm];exact AK l a H λc b=>h c (qJi _ b)
theorem iK(Z:rE nat){a e b H z}(k)(V:j7 a=true)(ha:(a.toList.all λo=>!qw o)=true)(S:((a.toList.take k).all calm)=true)(U:Ag (loose a) k (zl (a.toList.take k))=true)(s:∀p∈loose a,bw a p.1<e.length/\((a[p.1]?).bind (·.dst)).isSome=true)(L:∀p∈loose a,simple (b.at (bw a p.1))=true)(h:je P (iex P good nat 0) nat (a.toList.map (·.dst)) a.toList e H=.ret (b,z)):hD P (iex P good nat 0) nat a e H=some (b,z):=by(have n:∀o∈a.toList,qw o=false:=λo C=>by grind);have⟨v,R,X,B⟩:=Wh (lo:=loose a) Z a.toList 0 k e H b z n (λo C=>qJc.1 S o C) h;unfold hD;rw[AK _ _ _ n];simp[X,Zh];(have w:bU a=[]:=by grind[bU,Jh,qw,List.filter_eq_nil_iff]);(have f:zG (nK P (loose a) (H::v)) R=true:=by rw[jC];intro r J;have⟨j,p,h1,h2,A,O,Y⟩:=B.recs r J;have u:=B3 _ A;have x:=qJc.1 U _ u;simp[qJa]at x;(have hj:=by omega);(have t:a[r.i]?=some r.o:=by grind);have N:=O (by omega) (T1 u t);unfold nK;simp[A];refine BU _ 0 λq E F M Q=>?_;have D:=B.heaps q (by omega);rw[F]at D;cases D;rw[N];have m:=L _ u;have⟨g,c⟩:=s _ u;simp[t]at c;have⟨d,i⟩:=qKG.1 c;(have l:bw a r.i=d:=by grind[bw]);simp[l]at g m;have f:=YA V;have y:=Y d i g (by rintro⟨I,W,q1,q2,q3,K⟩;exact f.dst j I r.o W d (by omega) (by grind) (by grind) i K);rw[<-y];exact Tq m);rw[f,w];rfl
theorem Setup.Nv(s:Setup P good nat G)(w:rE nat)(k){id a y d b H j Q q lo}(m:yZ G a=true)(n:j7 a=true)(t:(a.toList.all λo=>!qw o)=true)(v:((a.toList.take k).all calm)=true)(l:loose a=lo)(r:Ag lo k (zl (a.toList.take k))=true)(f:lo.all (λp=>((a[p.1]?).bind (·.dst)).isSome)=true)(i:a.toList.map (·.dst)=q)(h:je P (iex P good nat 0) nat q a.toList d H=.ret (b,j))(u:(lo.all λp=>Nat.blt (bw a p.1) d.length&&simple (b.at (bw a p.1)))=true)(z:Holds P G rd y b j Q):Holds P G rd (.seq (.region id a true) y) d H Q:=by subst i l;(have g:∀p∈loose a,bw a p.1<d.length/\simple (b.at (bw a p.1))=true:=λp c=>by have:=qJc.1 u p c;simp_all);exact Holds.Nu (Q1:=λe h=>e=b/\h=j) (s.draw 0 m n (iK w k n t v r (λp c=>⟨(g p c).1,qJc.1 f p c⟩) (λp c=>(g p c).2) h) ⟨rfl,rfl,rfl⟩) λe h⟨x,A⟩=>by grind
end Go.Idl
namespace Go.Idl
variable{P:T'}{good:C'->Bool}{nat:qh}{G:Nat->Bool}{rd:Bool}
end Go.Idl
namespace Go.Idl
end Go.Idl
namespace Go.Idl
variable{P:T'}
def wF(f:Inj):=∀b e,f b=some e->e.ro=true
theorem wF.add{f b e}(h:wF f)(d:e.ro=true):wF (f.add b e):=by intro x y a;by_cases c:x=b;{grind[Inj.add_same]};rw[Inj.zI c]at a;exact h x y a
theorem Rel.qDg{f H w}(h:Rel P f H w)(l:wF f)(r:0<w.heap.size):Rel P (f.add H.size ⟨0,1,0,true⟩) (H.push kQ) w/\f.le (f.add H.size ⟨0,1,0,true⟩):=by have g:f.le (f.add H.size ⟨0,1,0,true⟩):=Inj.aF (Qw h);have a:wF (f.add H.size ⟨0,1,0,true⟩):=l.add rfl;refine⟨⟨?_,?_,?_,?_,?_,?_⟩,g⟩;{intro b e d;by_cases c:b=H.size;{simp_all};rw[Inj.zI c]at d;have:=h.dom b e d;simp;omega};{intro b d;simp[IH.size_push]at d;rw[IH.y8,if_neg (by omega)];exact h.fresh b (by omega)};{intro b e d;by_cases c:b=H.size;{grind[Inj.add_same]};rw[Inj.zI c]at d;exact h.bound b e d};{intro b e o d i;by_cases c:b=H.size;{subst c;rw[IH.y8,if_pos rfl]at i;cases i;exact trivial};rw[Inj.zI c]at d;rw[IH.y8,if_neg c]at i;exact(h.obj b e o d i).mono g};{intro n j c m q s _ p k _ _ _ _ _;exact⟨a n c p,a j m k⟩};intro n j c m p k _;rw[a n c p,a j m k]
theorem Tu{w:J'}{a v}(h:w.cell? a=some v):a.spot=none/\∃c d b,w.heap[a.block]?=some (.cells c d b)/\c[a.off]?=some v:=by unfold World.cell? at h;split at h;{simp_all};grind
theorem Dw{w:J'}{a:Addr}{v c b d i}(e:w.heap[a.block]?=some (.cells c b d))(f:a.spot=none)(h:w.cell? (a.add i)=some v):c[a.off+i]?=some v:=by grind[Addr.add,World.cell?]
theorem qBp{f H w}(t:Rel P f H w)(l:wF f){a:Addr}{L C}(r:L<=C)(s:0<C)(h:List P')(q:h.length=L)(V:Nat->P')(d:∀i,i<C->w.cell? (a.add i)=some (V i))(x:∀i u,h[i]?=some u->qK P f u (V i)):∃k,Rel P (f.add H.size ⟨a.block,a.off,(match w.heap[a.block]? with|some (.cells c _ _)=>c.size|_=>0),true⟩) (H.push (.cells h.toArray k (0,1))) w/\f.le (f.add H.size ⟨a.block,a.off,(match w.heap[a.block]? with|some (.cells c _ _)=>c.size|_=>0),true⟩)/\a.spot=none:=by have n:=d 0 s;rw[(by simp[Addr.add]:a.add 0=a)]at n;have⟨o,c,k,A,m,p⟩:=Tu n;(have g:a.off+h.toArray.size<=c.size:=by simp[qMZ];by_cases y:L=0;{grind};have:=(qJ_.1 (Dw m o (d (L-1) (by omega)))).1;omega);(have:=t.qDd m (λb e j _=>l b e j) h.toArray k g λi v z=>by grind[Dw]);grind
end Go.Idl
namespace Go.Idl
variable{P:T'}
end Go.Idl
namespace Go.Idl
variable{P:T'}{good:C'->Bool}{nat:qh}{G:Nat->Bool}{rd:Bool}
variable{H:IH}{Q:Out->Prop}{args:List P'}{c x y:Code}{ds:List (Option Tmp)}{env:Env}{g:C'}{id l l0:Nat}{ops:Array I'}{p:P'×IH->Prop}
inductive WkL:List P'->List P'->Prop|nil:WkL [] []|same{v:P'}{l m:List P'}(h:WkL l m):WkL (v::l) (v::m)|any{v:P'}{l m:List P'}(h:WkL l m):WkL (v::l) (unk::m)
theorem WkL.trans{a b c}(h:WkL a b):WkL b c->WkL a c:=by induction h generalizing c with|nil=>grind|same _ d=>intro k;(cases k with|same k=>exact .same (d k)|any k=>exact .any (d k))|any _ d=>intro k;cases k with|same k=>exact .any (d k)|any k=>exact .any (d k)
def Wk(R:Env->IH->Prop):Env->IH->Prop:=λe h=>∃a,WkL e a/\R a h
open Classical in noncomputable def t_{α:Type}(b:α->List P'->IH->Prop)(a:α->IH->P'->IH->Prop):List P'->IH->T (P'×IH):=λargs H=>if h:∃x,b x args H then .sp (λr=>a (Classical.choose h) H r.1 r.2) .ret else .fail
noncomputable def gW(nat:qh)(g:C'){α}(b:α->List P'->IH->Prop)(a:α->IH->P'->IH->Prop):qh:=λx=>cond (Nat.beq x g) (some (t_ b a)) (nat x)
theorem qCA{α a b}(d:∀x y args H,a x args H->a y args H->x=y){x:α}{args H}(e:a x args H):t_ a b args H=.sp (λr=>b x H r.1 r.2) .ret:=by have h:∃x,a x args H:=⟨x,e⟩;grind[t_]
theorem It{α b}{a:α->IH->P'->IH->Prop}(e:jc nat):jc (gW nat g b a):=by intro x y h args H;unfold gW at h;cases d:Nat.beq x g with|false=>rw[d]at h;exact e x y h args H|true=>rw[d]at h;cases h;unfold t_;split<;>exact trivial
def y6(P G g args H Q):=∀(a:List P')(f:Inj)(w:J'),Rel P f H w->za G f->qM P f args a->CallsIn Fence.wide 0 P g a.toArray w (Comes P f H w Q)
theorem y6.mono{g args H Q b}(h:y6 P G g args H Q)(d:∀r,Q r->b r):y6 P G g args H b:=by intro a f w t i q;refine CallsIn.mono (h a f w t i q) ?_;rintro e v⟨o,r,s,u,m,n,k,j⟩;exact⟨o,r,s,u,d r m,n,k,j⟩
theorem y6.of{a Q N}(b:P.funcs[g]?=some a)(m:a.body=some c)(e:a.ntmps=N)(h:Holds P G false c (args++List.replicate (N-args.length) undef) H λo=>(o.e=.normal\/o.e=.ret)/\∃v,w9 P a o.env o.H=some v/\Q (v,o.H)):y6 P G g args H Q:=by subst e;exact λd f w k i j=>T9 b m k i j h
theorem Setup.gW(s:Setup P good nat G){g α}(i)(b:α->IH->P'->IH->Prop)(n:∀x args H,i x args H->y6 P G g args H λr=>b x H r.1 r.2):Setup P good (Go.Idl.gW nat g i b) G:=by refine⟨s.mix,It s.ext,?_,s.good⟩;intro x y h args a H f w Q j m k e;unfold Go.Idl.gW at h;cases d:Nat.beq x g with|false=>rw[d]at h;exact s.spec x y h args a H f w Q j m k e|true=>rw[d]at h;have t:=qJ9 d;subst t;cases h;unfold t_ at e;split at e;{rename_i q;exact(n _ args H (Classical.choose_spec q)).mono (λr o=>e r o) a f w j m k};exact e.elim
def eD(P G l args H Q):=∀(b:List P')(f:Inj)(w:J')(e:Emb),Rel P f H w->za G f->f l=some e->qM P f args b->∃i d a h,(Instr.yield e.r b.toArray).run P w=.ok (.round e.r i d a h) w/\RoundIn Fence.wide 0 P e.r i d a h w (Comes P f H w Q)
theorem eD.mono{l args H Q j}(h:eD P G l args H Q)(u:∀r,Q r->j r):eD P G l args H j:=by intro b f w e C s z q;have⟨t,i,a,d,o,A⟩:=h b f w e C s z q;refine⟨t,i,a,d,o,RoundIn.mono A ?_⟩;rintro e F⟨v,r,D,E,B,k,n,m⟩;exact⟨v,r,D,E,u r B,k,n,m⟩
noncomputable def UA(a:Nat->List P'->IH->T (P'×IH)):Job->IH->T Out|.round l args,H=>(a l args H).bind λr=>.ret ⟨.normal,[r.1],r.2⟩|_,_=>.fail
def EW(P G)(a:Nat->List P'->IH->T (P'×IH)):=∀l args H Q,(a l args H).holds Q->eD P G l args H Q
theorem qAG{t:T (P'×IH)}{Q}(h:((t.bind λr=>.ret ⟨.normal,[r.1],r.2⟩).bind wc).holds Q):t.holds Q:=by rw[T.kL,T.kL]at h;exact T.ky (λr a=>a) _ h
theorem iV{b}(h:EW P G b):gy P G (UA b):=by intro l args a H f w e Q k m i j d;exact h l args H Q (qAG d) a f w e k m i j
theorem TV{a}:np (UA a) nat (some (.round l args H))=((a l args H).bind λr=>.ret ⟨.normal,[r.1],r.2⟩).bind wc:=rfl
theorem LS{Q i}(hg:H.get l=some (.loop i))(cv:i.state=.ready)(A:args.length=i.params.size)(hb:Holds P G true i.assign ((i.params.toList.zip args).foldl (λe p=>qZ e p.1 p.2) i.tmps.toList) H λo=>o.e=.normal/\∃b,o.H.get l=some (.loop b)/\b.state=.ready/\Holds P G true i.body o.env (o.H.put l (.loop {b with state:=.busy})) λs=>∃m,s.H.get l=some (.loop m)/\Q (.bool (xo s.e).isNone,s.H.put l (.loop {m with state:=if(xo s.e).isNone then .ready else .done,pending:=xo s.e}))):eD P G l args H Q:=by intro r f w e hR W he ha;have⟨xm,d,X,g1,g2,g3,g4,g5,g6,g7,g8,g9,g10⟩:=fF hR he hg;refine⟨d.fn,_,d.assign,d.body,run_yield X (by rw[g3,<-A,ha.1];simp),?_⟩;(have E:qM P f ((i.params.toList.zip args).foldl (λe p=>qZ e p.1 p.2) i.tmps.toList) ((d.params.zip r.toArray).foldl (λu(t,a)=>u.setIfInBounds t a) d.tmps).toList:=by rw[<-qLR,Array.toList_zip];grind[Jb,Jc]);refine roundIn_of_wpIn trivial ?_;rw[g4,g5];refine wpIn_mono (hb w.heap.size (Fence.wide.inRound e.r) f _ w (QU _) ⟨rfl,λl h=>by have:=qJs h;subst this;exact⟨_,X⟩⟩ hR W E (qJb _)) ?_;rintro ex a1 w1⟨o,f1,⟨K,b,C,U,hq⟩,rfl,S,L,k3,k4⟩;rw[K];have q:=L.le _ _ he;have⟨_,j,J,q2,q3,q4,q5,q6,q7,q8,q9,M,q11⟩:=fF S q C;refine⟨_,run_beginRound J (by grind),?_⟩;have⟨V,F⟩:=nN .busy b.pending M S q C J;(have Z:({j with state:=.busy,pending:=b.pending})={j with state:=.busy}:=by grind);rw[Z]at V;rw[Z]at F;refine wpIn_mono (hq w.heap.size (Fence.wide.inRound e.r) f1 a1 _ (QU _) ⟨rfl,λl h=>by have:=qJs h;subst this;exact F.lps _ ⟨_,J⟩⟩ V (W.mono L.le) k3 (Marks.grow F _ k4)) ?_;rintro ex2 a2 w2⟨s,f2,⟨m,z,hs⟩,rfl,N,s2,s3,s4⟩;have D:=s2.le _ _ q;have⟨_,R,O,t2,t3,t4,t5,t6,t7,t8,t9,t10,t11⟩:=fF N D z;(have k:∀c,xo s.e=some c->r7 c=true:=by intro c I;cases n:s.e<;>rw[n]at I<;>simp[xo]at I<;>subst I<;>rfl);have⟨u1,u2⟩:=nN (if(xo s.e).isNone then .ready else .done) (xo s.e) k N D z O;have B:∃v Y,(Instr.endRound e.r (xo s.e)).run P w2=.ok v Y/\Comes P f H w Q (.returned v) Y:=⟨_,_,run_endRound (xo s.e) O,⟨_,_,f2,rfl,hs,u1,((L.trans F).trans s2).trans u2,.base _ rfl⟩⟩;cases n:s.e with|_=>rw[n]at B;exact B
theorem Setup.qDh(s:Setup P good nat G){v S e b J}(hv:yH G v=true)(hx:codeOk G true x=true)(Y:codeOk G true y=true)(u:env.val v=.func (.func g) e b)(E:entered P g=true)(q:y6 P G g (kB e.toList (.func (.yield H.size) #[] #[]::b.toList)) (H.push (.loop {state:=.ready,pending:=none,fn:=0,tmps:=env.toArray,params:=S,assign:=x,body:=y,defers:=0})) J)(hq:∀r,J r->(aj (iex P good nat 2) H.size env r).holds Q):Holds P G rd (.rangeFunc v S x y) env H Q:=by classical intro B F f a w hF m Z M D X;let L:=kB e.toList (.func (.yield H.size) #[] #[]::b.toList);let R:=H.push (.loop {state:=.ready,pending:=none,fn:=0,tmps:=env.toArray,params:=S,assign:=x,body:=y,defers:=0});let i:qh:=λK=>if K=g then some (λargs z=>if args=L/\z=R then .sp J .ret else .fail)else none;(have V:v_ P G i:=by intro K k C args h z U W N n o t d;simp only[i]at C;split at C;{rename_i O;subst O;cases C;change T.holds N (if args=L/\z=R then T.sp J T.ret else T.fail)at d;split at d;{rename_i I;obtain⟨rfl,rfl⟩:=I;exact(q.mono λr m=>d r m) h U W n o t};exact d.elim};grind);let A:Job->IH->T Out:=λj H=>match j with|.code c env=>iex P good nat 2 (.code c env) H|_=>.fail;(have I:vv P G (yM A i):=by intro K args h z U W N n o t d;unfold yM at d;split at d;{rename_i k C;exact V K k C args h z U W N n o t d};exact d.elim);refine Fy I (((BI s.ext s.spec s.good (λ_ _ I m=>A3 s.mix I m) 2).1)) hF m Z M (dO M hv) (xN M _ _ hx) (xN M _ _ Y) D X ?_;unfold gx;rw[u];simp[E];unfold yM;simp[i,L,R];exact λr m=>hq r m
end Go.Idl
namespace Go.Idl
variable{P:T'}
variable{H H':IH}{b hi i lo pQ:Nat}{el st:B'}{fz:Nat×Nat}{o:Obj}{rows vs:List P'}{v:P'}{z:Int}{zs:List Int}{Gr:List (List Int)}
noncomputable def qB7(P:T')(el:B'):Bool:=match P.info? el with|some a=>a.size==1&&decide (a.bytes<=64)&&((kK P el).map (·.cells.size))==some a.size|none=>false
structure El(P:T')(st el:B'):Prop where
 und:P.underlying st=some (.slice el)sz:szT P el=some 1
 ag:kU P el=some false
 ok:qB7 P el=true
def Grown(H:IH)(el:B')(lo)(v:P')(vs):=(vs=[]/\v=.slice none 0 0)\/∃b,lo<=b/\b<H.size/\v=.slice (some ⟨b,0,some el⟩) vs.length vs.length/\H.get b=some (.cells vs.toArray el zf)
theorem Grown.nil(H el lo):Grown H el lo (.slice none 0 0) []:=.inl ⟨rfl,rfl⟩
theorem La(h:H.get b=some (.cells vs.toArray el fz)):H.loads b 0 vs.length=some vs:=by unfold IH.loads;rw[h];simp
theorem me(a:b<H.size):(H.push o).get b=H.get b:=by rw[IH.y8,if_neg (by omega)]
theorem QQ:(H.push o).get H.size=some o:=by rw[IH.y8,if_pos rfl]
theorem uc{x}(h:x≠b):(H.put b o).get x=H.get x:=by rw[IH.get_put,if_neg h]
theorem QT:(H.put b o).get b=some o:=by rw[IH.get_put,if_pos rfl]
def qC0(H:IH)(el lo hi)(v:P')(zs):=(zs=[]/\v=.slice none 0 0)\/∃b c a fz,lo<=b/\b<hi/\b<H.size/\v=.slice (some ⟨b,0,c⟩) zs.length a/\H.get b=some (.cells (zs.map (Value.int .i64)).toArray el fz)
def Mb(H el lo hi)(rows:List P')(Gr:List (List Int)):=rows.length=Gr.length/\∀(i:Nat)r zs,rows[i]?=some r->Gr[i]?=some zs->qC0 H el lo hi r zs
theorem Mb.nil(H el lo hi):Mb H el lo hi [] []:=⟨rfl,λi r zs h=>by simp at h⟩
end Go.Idl
namespace Go.Idl
variable{P:T'}{good:C'->Bool}{nat:qh}{G:Nat->Bool}{rd:Bool}
variable{H H1:IH}{I:Nat->Env->IH->Prop}{J:Env->IH->Prop}{Q:Out->Prop}{ds:List (Option Tmp)}{env k_ gV:Env}{id id' n Po:Nat}{o:I'}{ops:Array I'}{t:Bool}{u:B'}{v:K'}{x x2 y:Code}
theorem Setup.ifZ(s:Setup P good nat G)(b:yZ G ops=true)(c:ops.toList.map (·.dst)=ds)(h:je P (iex P good nat 0) nat ds ops.toList env H=.ret (gV,H1))(a:yH G v=true)(d:gV.val v=.bool t)(f:t=true->Holds P G rd x gV H1 Q)(e:t=false->Holds P G rd x2 gV H1 Q):Holds P G rd (.seq (.region Po ops false) (.cond v x x2)) env H Q:=s.U7 0 b c h (.cond a d f e)
theorem NA{x y t}:zo P o ⟨.builtin .append,#[x,y],#[t,u]⟩ env H=(match wh P #[t,u] [env.val x,env.val y] H with|some r=>some r|none=>qk P o env H):=rfl
theorem MZ{x y t}:zo P o ⟨.builtin .copy,#[x,y],#[t,u]⟩ env H=(match uF P #[t,u] [env.val x,env.val y] H with|some r=>some r|none=>qk P o env H):=rfl
theorem AY:bz (some H)=some (.val undef H):=rfl
end Go.Idl
namespace Go.Idl
variable{P:T'}
end Go.Idl
namespace Go.Idl
variable{P:T'}
end Go.Idl
namespace Go.Idl
variable{P:T'}{good:C'->Bool}{nat:qh}{G:Nat->Bool}{rd:Bool}
end Go.Idl
namespace Go.Idl
variable{P:T'}
end Go.Idl
namespace Go.Idl
variable{P:T'}
variable{H:IH}{b i lo:Nat}{el st:B'}{k:L'}{v:P'}{x:Int}{zs:List Int}
def OwnAt(H:IH)(el lo)(v:P')(zs:List Int):=∃b c a,lo<=b/\b<H.size/\v=.slice (some ⟨b,0,c⟩) zs.length zs.length/\H.get b=some (.cells (zs.map (Value.int .i64)).toArray el a)/\vT a=true
theorem Grown.own(h:Grown H el lo v (zs.map (Value.int .i64)))(c:zs≠[]):OwnAt H el lo v zs:=by rcases h with⟨a,_⟩|⟨b,a,e,rfl,d⟩;{simp at a;exact absurd a c};exact⟨b,some el,zf,a,e,by rw[qJq],d,rfl⟩
end Go.Idl
namespace Go.Idl
variable{P:T'}{good:C'->Bool}{nat:qh}{G:Nat->Bool}{rd:Bool}
variable{H H1 HA:IH}{Q:Out->Prop}{ds:List (Option Tmp)}{env gV qDi:Env}{id:Nat}{l:List I'}{lo:List (Nat×Nat×Nat)}{o:I'}{ops:Array I'}{v:P'}
def Keeps(H a:IH):=∀b o,H.get b=some o->a.get b=some o
theorem Keeps.trans{c}(a:Keeps H H1)(b:Keeps H1 c):Keeps H c:=λx o h=>b x o (a x o h)
end Go.Idl
namespace Go.Idl
variable{P:T'}{good:C'->Bool}{nat:qh}{G:Nat->Bool}{rd:Bool}
variable{H H1 HA:IH}{Q:Out->Prop}{ds:List (Option Tmp)}{env gV qDi:Env}{hF hs:List IH}{id:Nat}{l:List I'}{lo:List (Nat×Nat×Nat)}{o:I'}{ops:Array I'}
end Go.Idl
namespace Go.Idl
variable{P:T'}
variable{H:IH}{b i n:Nat}{el t:B'}{fz:Nat×Nat}{l:List P'}{v:P'}
theorem J4(a:kU P t=some false)(h:H.get b=some (.cells l.toArray el fz))(c:l[i]?=some v):jD P t (.pointer (some ⟨b,i,none⟩)) H=some v:=by refine iC a ?_;unfold IH.load;rw[h];simpa using c
theorem lH(d:szT P t=some 1)(c:v.cells=#[v])(e:oneCell v=true)(h:H.get b=some (.cells l.toArray el fz))(f:i<l.length)(g:vT fz=true)(a:H.base<=b):uj P t (.pointer (some ⟨b,i,none⟩)) v H=some (H.put b (.cells (l.set i v).toArray el fz)):=by unfold uj;simp only[d,c];rw[if_pos (by rfl)];unfold IH.stores;rw[h];simp only;rw[if_pos];{congr 3;apply qLt;show overwrite l i [v]=_;unfold overwrite;simp only[List.length_singleton];rw[qKl,if_pos f];simp};simp[g,a,e];omega
end Go.Idl
namespace Go.Idl
variable{P:T'}{good:C'->Bool}{nat:qh}{G:Nat->Bool}{rd:Bool}
variable{H H':IH}{Q:P'×IH->Prop}{args:List P'}{env:Env}{r:P'×IH}{v:P'}{x y:Code}{zs:List Int}
open Classical in noncomputable def tE(b:Nat)(a:List P')(d:IH)(c:P'×IH->Prop):Nat->List P'->IH->T (P'×IH):=λl args H=>if l=b/\args=a/\H=d then .sp c .ret else .fail
theorem iO{l}:tE l args H Q l args H=.sp Q .ret:=by grind[tE]
theorem Tm{l}(h:eD P G l args H Q):EW P G (tE l args H Q):=by intro f b H' e a;unfold tE at a;split at a;{rename_i c;have⟨rfl,rfl,rfl⟩:=c;exact h.mono λr d=>a r d};exact a.elim
theorem lI{o f args a l}(b:env.val f=.func (.yield l) #[] #[]):zo P o ⟨.value f,args,a⟩ env H=some (.round l (qo env.val args.toList) H):=by(have:yo P ⟨.value f,args,a⟩ env H=some (.round l (qo env.val args.toList) H):=by grind[yo]);grind[zo]
theorem lZ{l}:np (UA (tE l args H Q)) nat (some (.round l args H))=.sp Q .ret:=by rw[TV,iO];rfl
structure Fr(T:Nat->Prop)(H H':IH):Prop where
 size:H.size<=H'.size
 base:H'.base=H.base
 get:∀b,b<H.size->¬T b->H'.get b=H.get b
theorem Fr.trans{T g H e d}(a:Fr T H e)(b:Fr g e d)(i:∀x,x<H.size->g x->T x):Fr T H d:=⟨qJy a.size b.size,b.base.trans a.base,λx c f=>(b.get x (qJf c a.size) λh=>f (i x c h)).trans (a.get x c f)⟩
theorem Setup.qDj(s:Setup P good nat G){v h H Q g b a}(i:yH G v=true)(k:codeOk G true x=true)(j:codeOk G true y=true)(e:env.val v=.func (.func g) b a)(d:entered P g=true)(n:∀c:Loop,c.state=.ready->c.pending=none->c.tmps.toList=env->c.params=h->c.assign=x->c.body=y->∃f,y6 P G g (kB b.toList (.func (.yield H.size) #[] #[]::a.toList)) (H.push (.loop c)) f/\∀r,f r->(aj (iex P good nat 2) H.size env r).holds Q):Holds P G rd (.rangeFunc v h x y) env H Q:=by have⟨f,m,l⟩:=n {state:=.ready,pending:=none,fn:=0,tmps:=env.toArray,params:=h,assign:=x,body:=y,defers:=0} rfl rfl rfl rfl rfl rfl;exact s.qDh i k j e d m l
theorem Li{l a c Q}(g:r.2.get l=some (.loop a))(f:a.state=.ready)(d:a.pending=none)(e:∀b,Q ⟨.normal,env,r.2.put l (.loop b)⟩):(aj c l env r).holds Q:=by cases a;subst f d;unfold aj;rw[g];exact e _
structure qDk(n:Nat)(H H':IH):Prop where
 size:H.size<=H'.size
 base:H'.base=H.base
 get:∀b,b<H.size->(b<n\/∀lp,H.get b≠some (.loop lp))->H'.get b=H.get b
theorem Old.l(h:Old H H')(n):qDk n H H':=⟨h.size,h.base,λb a _=>h.get b a⟩
end Go.Idl
