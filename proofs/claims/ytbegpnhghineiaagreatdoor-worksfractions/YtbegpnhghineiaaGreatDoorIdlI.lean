/- The soundness of ideal runs, and rules for their use. Conditions: none. -/
import Derived.Test.YtbegpnhghineiaaGreatDoorIdlF
set_option linter.all false
namespace Go.Idl
variable{P:T'}{good:C'->Bool}{nat:qj}
variable{G:Nat->Bool}
def cw:qj:=λ_=>none
theorem RQ:jX cw:=by intro f k h;cases h
theorem Pq:ve P G cw:=by intro f k h;cases h
end Go.Idl
namespace Go.Idl
variable{P:T'}{good:C'->Bool}{nat:qj}
variable{H:IH}{f f1:Inj}{g:C'}{k:List P'->IH->Option P'}{w:J'}
structure Old(H H':IH):Prop where
 size:H.size<=H'.size
 base:H'.base=H.base
 get:∀b,b<H.size->H'.get b=H.get b
theorem Old.refl(H):Old H H:=⟨qEw _,rfl,λ_ _=>rfl⟩
theorem Old.trans{H c e}(a:Old H c)(b:Old c e):Old H e:=⟨qFO a.size b.size,b.base.trans a.base,λx d=>(b.get x (qEz d a.size)).trans (a.get x d)⟩
end Go.Idl
namespace Go.Idl
variable{P:T'}{good:C'->Bool}{nat:qj}{rd:Bool}
variable{G:Nat->Bool}{H:IH}{Q:Out->Prop}{c:Code}{env gH:Env}{f:Inj}{l:List (Nat×Obj)}{w:J'}
def Holds(P G rd)(c:Code)(env:Env)(H Q):=∀(B:Nat)(F:Fence)(f:Inj)(a:Act)(w:J'),zv F->vR rd F w->Rel P f H w->z6 G f->qJ P f env a.tmps.toList->Marks B f w a.defers->c.wpIn F 0 P (yk P B f H w Q) a w
structure Setup(P:T')(good:C'->Bool)(nat:qj)(G:Nat->Bool):Prop where
 mix:P.follows .mixedOrders=true
 ext:jX nat
 spec:ve P G nat
 good:ZC P good G
theorem Setup.run(s:Setup P good nat G)(n)(e:codeOk G rd c=true)(h:(iex P good nat n (.code c env) H).holds Q):Holds P G rd c env H Q:=by intro B F f a w j d k g b i;exact(Gw s.ext s.spec s.good (λ_ _ e d=>GG s.mix e d) n).1 B F rd c env H f a w Q j d k g (xH g _ _ e) b i h
theorem Pl{g j b a Q}(y:P.funcs[g]?=some j)(I:j.body=some c)(D:Rel P f H w)(J:z6 G f)(C:qJ P f b a)(h:Holds P G false c (b++List.replicate (j.ntmps-b.length) undef) H λo=>(o.e=.normal\/o.e=.ret)/\∃v,wQ P j o.env o.H=some v/\Q (v,o.H)):CallsIn Fence.wide 0 P g a.toArray w (Comes P f H w Q):=by(have p:qJ P f (b++List.replicate (j.ntmps-b.length) undef) (a.toArray++Array.replicate (j.ntmps-a.toArray.size) undef).toList:=by(have N:(a.toArray++Array.replicate (j.ntmps-a.toArray.size) undef).toList=a++List.replicate (j.ntmps-b.length) undef:=by simp[C.1]);rw[N];refine C.append ?_;(have X:∀n,qJ P f (List.replicate n undef) (List.replicate n undef):=by intro n;induction n with|zero=>exact .nil|succ n E=>exact .cons .undef E);grind);refine callsIn_of_wp_marks y I trivial (wpIn_mono (h w.heap.size Fence.wide f _ w Ge (.none rfl) D J p (qEw _)) ?_);rintro e x B⟨o,V,⟨t,v,F,K⟩,rfl,W,i,O,z⟩;(have q:LeavesInM Fence.wide 0 P j x.tmps (Comes P f H w Q) x.defers .returning B:=by refine XD x.defers B W z λY s m u k=>?_;have⟨A,S,M⟩:=Uy O s F;refine⟨A,S,A,(v,o.H),V,rfl,K,s,⟨i.kh,i.stay,i.le,by rw[u];exact i.size,λr R L=>?_,i.un,⟨k.1.trans i.out.1,k.2.1.trans i.out.2.1,k.2.2.trans i.out.2.2⟩,λr h=>⟨(i.lps r h).choose,(m r (λd U=>oQ _ z r h.lt d U)).trans (i.lps r h).choose_spec⟩⟩,M⟩;have⟨q1,Z⟩:=i.keep r R L;grind[oQ]);rcases t with t|t<;>(rw[t];exact q)
noncomputable def lR(l:List (Nat×Obj)):Tr Obj:=List.rec .nil (λp _ a=>a.set p.1 p.2) l
noncomputable def nV(l:List (Nat×Obj))(n:Nat):IH:=⟨lR l,n,0,[]⟩
end Go.Idl
namespace Go.Idl
variable{P:T'}{good:C'->Bool}{nat:qj}{G:Nat->Bool}{rd:Bool}
variable{H:IH}{Q:Out->Prop}{env:Env}{id:Nat}{x y:Code}
theorem Holds.mono{c d}(h:Holds P G rd c env H Q)(j:∀o,Q o->d o):Holds P G rd c env H d:=by intro B F f a w i k l g b m;exact wpIn_mono (h B F f a w i k l g b m) λe a w=>cM (.refl _ _ _) j
theorem Holds.EF{Q1}(z:Holds P G rd x env H Q1)(u:∀o,Q1 o->o.e=.normal->Holds P G rd y o.env o.H Q)(t:∀o,Q1 o->o.e≠.normal->Q o):Holds P G rd (.seq x y) env H Q:=by intro B F f a w j m v n b q;refine wpIn_seq (wpIn_mono (z B F f a w j m v n b q) ?_);rintro e r s⟨o,p,d,rfl,i,c,l,g⟩;cases k:o.e with|normal=>exact wpIn_mono (u o d k B F p r s j (m.mono c.lps) i (n.mono c.le) l g) λe a w=>cM c λ_ h=>h|_=>exact⟨o,p,t o d (by grind),by rw[k],i,c,l,g⟩
theorem Holds.EG{Q1:Env->IH->Prop}(d:Holds P G rd x env H λo=>o.e=.normal/\Q1 o.env o.H)(c:∀a b,Q1 a b->Holds P G rd y a b Q):Holds P G rd (.seq x y) env H Q:=.EF d (λ_ h _=>c _ _ h.2) (λ_ h e=>absurd h.1 e)
theorem Holds.cond{v t}(d:yE G v=true)(l:env.val v=.bool t)(k:t=true->Holds P G rd x env H Q)(m:t=false->Holds P G rd y env H Q):Holds P G rd (.cond v x y) env H Q:=by intro B F f a w g h i e b j;have c:=oP b (cN e d);rw[l]at c;refine wpIn_cond c.rO ?_;cases t with|true=>exact k rfl B F f a w g h i e b j|false=>exact m rfl B F f a w g h i e b j
def J4(id)(Q:Out->Prop)(o:Out):=match o.e with|.exit a=>if a=id then Q ⟨.normal,o.env,o.H⟩else Q o|_=>Q o
theorem Holds.block(s:Holds P G rd x env H (J4 id Q)):Holds P G rd (.block id x) env H Q:=by intro B F f a w n q r p d t;refine wpIn_block (wpIn_mono (s B F f a w n q r p d t) ?_);rintro e v u⟨o,m,c,rfl,j,i,h,k⟩;unfold J4 at c;cases g:o.e with|exit l=>rw[g]at c;simp[pM,Exit.inBlock];simp at c;by_cases b:l=id;{rw[if_pos b];rw[if_pos b]at c;exact⟨⟨.normal,o.env,o.H⟩,m,c,rfl,j,i,h,k⟩};rw[if_neg b];rw[if_neg b]at c;exact⟨o,m,c,by rw[g];rfl,j,i,h,k⟩|_=>rw[g]at c;exact⟨o,m,c,by rw[g],j,i,h,k⟩
theorem Holds.skip(h:Q ⟨.normal,env,H⟩):Holds P G rd .skip env H Q:=by intro B F f a w g i d e b c;exact wpIn_skip (aO d b c h)
theorem Holds.label{l}(h:Q ⟨.normal,env,H⟩):Holds P G rd (.label l) env H Q:=by intro B F f a w g i d e b c;exact wpIn_label (aO d b c h)
theorem Holds.ret(h:Q ⟨.ret,env,H⟩):Holds P G rd .ret env H Q:=by intro B F f a w g i d e b c;exact wpIn_ret (aO d b c h)
theorem Holds.exit(h:Q ⟨.exit id,env,H⟩):Holds P G rd (.exit id) env H Q:=by intro B F f a w g i d e b c;exact wpIn_exit (aO d b c h)
theorem Holds.scope(g:Holds P G rd x env H λo=>(∀l,o.e≠.goto l)/\Q o):Holds P G rd (.scope x) env H Q:=by intro B F f a w j m q d b c;refine Uq (wpIn_mono (g B F f a w j m q d b c) ?_);rintro e t v⟨o,s,⟨u,n⟩,rfl,i,r,p,h⟩;cases k:o.e with|goto l=>grind|_=>exact⟨o,s,n,by rw[k],i,r,p,h⟩
theorem Holds.loop(I:Nat->Env->IH->Prop)(D:∀n env H,I n env H->Holds P G rd x env H λo=>match o.e with|.normal=>∃m,m<n/\I m o.env o.H|_=>Q o){n env H}(h:I n env H):Holds P G rd (.loop x) env H Q:=by intro B F f a w M O U Y i X;let J:Act->J'->Nat->Prop:=λd c m=>∃b j g,I m b j/\Rel P g j c/\Grow f H w g j c/\qJ P g b d.tmps.toList/\Marks B g c d.defers;refine wpIn_loop (λd c=>∃m,J d c m) (λd c=>least (J d c)) ⟨n,env,H,f,h,U,.refl _ _ _,i,X⟩ ?_;intro d c R;have⟨⟨b,j,g,N,K,l,V,E⟩,C⟩:=sT R;generalize W:least (J d c)=m at*;refine wpIn_mono (D m b j N B F g d c M (O.mono l.lps) K (Y.mono l.le) V E) ?_;rintro e S Z⟨o,z,k,rfl,u,A,v,t⟩;cases q:o.e with|normal=>rw[q]at k;have⟨p,L,s⟩:=k;have r:J S Z p:=⟨o.env,o.H,z,s,u,l.trans A,v,t⟩;exact⟨⟨p,r⟩,by have:=(sT ⟨p,r⟩).2 p r;grind⟩|_=>rw[q]at k;exact⟨o,z,k,by rw[q],u,l.trans A,v,t⟩
theorem Setup.region(s:Setup P good nat G)(n){id a env b H c Q}(d:y4 G a=true)(h:hZ P (iex P good nat n) nat a a.toList env H=.ret (b,c))(f:Q ⟨.normal,b,c⟩):Holds P G rd (.region id a false) env H Q:=by refine s.run (n+1) (by grind[codeOk]) ?_;have e:iex P good nat (n+1) (.code (.region id a false) env) H=(hZ P (iex P good nat n) nat a a.toList env H).bind λr=>.ret ⟨.normal,r.1,r.2⟩:=rfl;rw[e,h];exact f
theorem Setup.draw(s:Setup P good nat G)(n){a b c}(d:y4 G a=true)(g:jV a=true)(h:uk P (iex P good nat n) nat a env H=some (b,c))(f:Q ⟨.normal,b,c⟩):Holds P G rd (.region id a true) env H Q:=by refine s.run (n+1) (by grind[codeOk]) ?_;have e:iex P good nat (n+1) (.code (.region id a true) env) H=tR (uk P (iex P good nat n) nat a env H):=rfl;rw[e,h];exact f
end Go.Idl
namespace Go.Idl
variable{P:T'}{good:C'->Bool}{nat:qj}{G:Nat->Bool}{rd:Bool}
variable{H:IH}{c:Code}{env:Env}{f:Inj}{fn:Func}{g:C'}{n:Nat}{v:P'}{w:J'}
theorem Rel.same{a}(h:Rel P f H w)(l:w.heap.size<=a.heap.size)(k:∀r,r<w.heap.size->a.heap[r]?=w.heap[r]?)(d:a.os=w.os/\a.output=w.output/\a.tape=w.tape):Rel P f H a/\Grow f H w f H a:=⟨⟨h.dom,h.fresh,λb e i=>qEz (h.bound b e i) l,λb e o i j=>by rw[k _ (h.bound b e i)];exact h.obj b e o i j,h.sep,h.jb⟩,⟨qEw _,λ_ _ h=>h,f.le_refl,l,λr m j=>⟨j,k r m⟩,λ_ _ h=>h,d,λr h=>⟨h.choose,(k r h.lt).trans h.choose_spec⟩⟩⟩
def mB(n:Nat):Inj:=λg=>cond (Nat.blt g n) (some ⟨g,0,rB g,true⟩) none
def qT(n):=λg=>Nat.blt g n
theorem aB{g e}(h:mB n g=some e):g<n/\e=⟨g,0,rB g,true⟩:=by unfold mB at h;cases a:Nat.blt g n with|false=>grind|true=>simp_all
theorem O5(n):z6 (qT n) (mB n):=by intro g a;have b:Nat.blt g n=true:=a;rw[sf];exact⟨⟨g,0,rB g,true⟩,by grind[mB],rfl,rfl,IL g⟩
end Go.Idl
namespace Go.Idl
variable{P:T'}{good:C'->Bool}{nat:qj}{rd:Bool}
theorem aH{α}(a)(l:List α):qP (a::l) 0=some a:=Eq.trans rfl rfl
theorem aK{α}(a)(l:List α)(n):qP (a::l) (n+1)=qP l n:=Eq.trans rfl rfl
theorem eM{α}(a b)(l:List α):qZ (a::l) 0 b=b::l:=Eq.trans rfl rfl
theorem eL{α}(a b)(l:List α)(n):qZ (a::l) (n+1) b=a::qZ l n b:=Eq.trans rfl rfl
theorem ez(a:Env)(t):a.val (.tmp t)=(qP a t).getD undef:=Eq.trans rfl rfl
theorem Gh(a:Env)(v):a.val (.const v)=v:=Eq.trans rfl rfl
theorem FW(a:Env)(f):a.val (.func f)=.func (.func f) #[] #[]:=rfl
theorem eN(a:Env)(t v):a.zU (some t) v=qZ a t v:=Eq.trans rfl rfl
theorem FD(a:Env)(v):a.zU none v=a:=Eq.trans rfl rfl
theorem eZ{a v H}:mb a nat (some (.val v H))=.ret (v,H):=Eq.trans rfl rfl
theorem Pk{b g a H}:mb b nat (some (.enter g a H))=yG b nat g a H:=Eq.trans rfl rfl
section
variable{o:I'}{t:B'}{k:L'}{a b:Int}{env:Env}{H:IH}
theorem gi{c v}(h:wY c k a b=some v):zt P o c t (.int k a) (.int k b) env H=some (.val v H):=by unfold zt uG asI;simp_all
theorem BG:zt P o .lss t (.int k a) (.int k b) env H=some (.val (.bool (decide (a<b))) H):=gi rfl
theorem B4:zt P o .leq t (.int k a) (.int k b) env H=some (.val (.bool (decide (a<=b))) H):=gi rfl
theorem Ax:zt P o .gtr t (.int k a) (.int k b) env H=some (.val (.bool (decide (b<a))) H):=gi rfl
theorem As:zt P o .geq t (.int k a) (.int k b) env H=some (.val (.bool (decide (b<=a))) H):=gi rfl
theorem BY:zt P o .eql t (.int k a) (.int k b) env H=some (.val (.bool (a==b)) H):=gi rfl
theorem lE:zt P o .neq t (.int k a) (.int k b) env H=some (.val (.bool (a !=b)) H):=gi rfl
theorem BI:zt P o .add t (.int k a) (.int k b) env H=some (.val (.int k (k.wrap (a+b))) H):=gi rfl
theorem BF:zt P o .sub t (.int k a) (.int k b) env H=some (.val (.int k (k.wrap (a-b))) H):=gi rfl
theorem Gv{c x y}:bG (.bool c) x y H=some (.val (cond c x y) H):=rfl
end
theorem Sx{t b i H v}(a:kf P t=some false)(h:H.load b i=some v):ky P t (.pointer (some ⟨b,i,none⟩)) H=some v:=by grind[ky]
noncomputable def enters(P:T')(g:C'):Bool:=match P.funcs[g]? with|some a=>a.body.isSome&&(a.name != "runtime.NumGoroutine")|none=>false
theorem Xi{o f c e d H g b a}(h:d.val f=.func (.func g) b a)(i:enters P g=true):zn P o ⟨.value f,c,e⟩ d H=some (.enter g (xj b.toList (xj (qs d.val c.toList) a.toList)) H):=by(have:yg P ⟨.value f,c,e⟩ d H=some (.enter g (xj b.toList (xj (qs d.val c.toList) a.toList)) H):=by grind[enters,yg]);grind[zn]
end Go.Idl
namespace Go.Idl
variable{P:T'}{good:C'->Bool}{nat:qj}{G:Nat->Bool}{rd:Bool}
theorem Setup.qAJ(s:Setup P good nat G)(n){id b y c a H f Q}(d:y4 G b=true)(h:hZ P (iex P good nat n) nat b b.toList c H=.ret (a,f))(g:Holds P G rd y a f Q):Holds P G rd (.seq (.region id b false) y) c H Q:=Holds.EG (Q1:=λe h=>e=a/\h=f) (s.region n d h ⟨rfl,rfl,rfl⟩) λe h⟨i,j⟩=>by grind
noncomputable def Qv(w:Bool):Option P'->Option Bool|some v=>JR w v|none=>none
noncomputable def mh(w:Bool)(a:Env):Option Tmp->Option Bool|some t=>Qv w (qP a t)|none=>some false
theorem Hy{w a t}:mh w a (some t)=Qv w (qP a t):=rfl
theorem GL{w b}:Qv w (some (.bool b))=some (b==w):=rfl
theorem HX{w}:Qv w (some undef)=some false:=rfl
theorem Cl{o g a d b H}(c:enters P g=true):zn P o ⟨.value (.func g),a,d⟩ b H=some (.enter g (qs b.val a.toList) H):=by rw[Xi rfl c];simp[gg]
theorem AK{α β}(g:α->β):qs g []=[]:=rfl
theorem FQ{α β}(g:α->β)(a l):qs g (a::l)=g a::qs g l:=rfl
theorem Zh{o x t a H}:zn P o ⟨.builtin .len,#[x],#[t]⟩ a H=(match ke P #[t] [a.val x] H with|some r=>some r|none=>qn P o a H):=rfl
theorem Hi{t e a n c H}(b:P.underlying t=some (.slice e)):ke P #[t] [.slice a n c] H=some (.val (goInt n) H):=by unfold ke;grind
theorem Fc{b}{t:Tmp}{a:Env}{H v}(c:b.results=#[.tmp t])(h:qP a t=some v):wQ P b a H=some v:=by grind[wQ,ay,pa,one]
end Go.Idl
namespace Go.Idl
theorem J5:(true==true)=true:=rfl
theorem JL:(true==false)=false:=rfl
theorem Jd:(false==true)=false:=rfl
theorem JY:(false==false)=true:=rfl
end Go.Idl
namespace Go.Idl
variable{P:T'}{good:C'->Bool}{nat:qj}{G:Nat->Bool}{rd:Bool}
noncomputable def wg(a:List (Option Tmp))(j:Nat):Option Tmp:=match a[j]? with|some d=>d|none=>none
theorem XT{d a}:wg (d::a) 0=d:=rfl
theorem GD{d a j}:wg (d::a) (j+1)=wg a j:=by simp[wg]
noncomputable def e7(b)(o:I')(a):=match o.guard with|none=>some true|some (j,w)=>mh w a (wg b j)
theorem XG(c o b):vD c o b=e7 (c.toList.map (·.dst)) o b:=by have⟨d,h,f,p,a,g⟩:=o;cases g with|none=>rfl|some e=>have⟨j,w⟩:=e;show mh w b _=mh w b _;grind[wg]
noncomputable def j3(P:T')(b:Job->IH->T Out)(nat:qj)(c:List (Option Tmp)):List I'->Env->IH->T (Env×IH)|[],a,H=>.ret (a,H)|o::l,a,H=>xO (e7 c o a) ((zf P b nat o a H).bind λr=>j3 P b nat c l (a.zU o.dst r.1) r.2) (j3 P b nat c l (a.zU o.dst undef) H) .fail
theorem tS{c}(b):∀(l a H),hZ P c nat b l a H=j3 P c nat (b.toList.map (·.dst)) l a H|[],a,H=>rfl|o::l,a,H=>by rw[Xl];rw[XG,tS b l];congr 2;funext r;exact tS b l _ _
theorem eD{f d e c p a b}:e7 f ⟨d,e,c,p,a,none⟩ b=some true:=rfl
theorem X2{c d f e p a b j w}:e7 c ⟨d,f,e,p,a,some (j,w)⟩ b=mh w b (wg c j):=rfl
theorem KX{b c a H}:j3 P b nat c [] a H=.ret (a,H):=Eq.trans rfl rfl
noncomputable def J_(P b nat c d l)(a:Env)(t:T (P'×IH)):=t.bind λr=>j3 P b nat c l (a.zU d r.1) r.2
noncomputable def goE(P b nat d o l a H c):=xO c (J_ P b nat d o.dst l a (zf P b nat o a H)) (j3 P b nat d l (a.zU o.dst undef) H) .fail
theorem cS{b c o l a H}:j3 P b nat c (o::l) a H=goE P b nat c o l a H (e7 c o a):=Eq.trans rfl rfl
theorem eY{b c o l a H}:goE P b nat c o l a H (some true)=J_ P b nat c o.dst l a (zf P b nat o a H):=Eq.trans rfl rfl
theorem FC{b c o l a H}:goE P b nat c o l a H (some false)=j3 P b nat c l (a.zU o.dst undef) H:=Eq.trans rfl rfl
theorem eG{b c d l a v H}:J_ P b nat c d l a (.ret (v,H))=j3 P b nat c l (a.zU d v) H:=Eq.trans rfl rfl
theorem Setup.Vp(s:Setup P good nat G)(n){id a y c b H e Q f}(d:y4 G a=true)(g:a.toList.map (·.dst)=f)(h:j3 P (iex P good nat n) nat f a.toList c H=.ret (b,e))(i:Holds P G rd y b e Q):Holds P G rd (.seq (.region id a false) y) c H Q:=s.qAJ n d (by grind[tS]) i
theorem Setup.qAK(s:Setup P good nat G)(n){id a c b H e Q f}(d:y4 G a=true)(i:a.toList.map (·.dst)=f)(h:j3 P (iex P good nat n) nat f a.toList c H=.ret (b,e))(g:Q ⟨.normal,b,e⟩):Holds P G rd (.region id a false) c H Q:=s.region n d (by grind[tS]) g
end Go.Idl
namespace Go.Idl
variable{P:T'}{good:C'->Bool}{nat:qj}{G:Nat->Bool}{rd:Bool}
end Go.Idl
namespace Go.Idl
end Go.Idl
namespace Go.Idl
variable{P:T'}
noncomputable def Jl(P a v H):=qn P ⟨none,.unOp a 0 (.const v),0,"",#[],none⟩ [] H
theorem CL{c t x d e p a g b H}:qn P ⟨d,.unOp c t x,e,p,a,g⟩ b H=Jl P c (b.val x) H:=rfl
theorem CA{n H}:Jl P .neg (.int .i64 n) H=some (.val (.int .i64 (IntKind.i64.wrap (0-n))) H):=rfl
theorem C4{b H}:Jl P .not (.bool b) H=some (.val (.bool !b) H):=rfl
end Go.Idl
namespace Go.Idl
variable{P:T'}{good:C'->Bool}{nat:qj}{G:Nat->Bool}{rd:Bool}
def o9(nat:qj):=∀g k,nat g=some k->∀a H r,k a H=.ret r->r.2=H
theorem Hc:o9 cw:=by intro g k h;cases h
def calm(o:I'):Bool:=match zO o with|.pure|.read|.call=>true|_=>false
theorem SB(z:o9 nat){o e H r}(u:calm o=true)(h:zf P (iex P good nat 0) nat o e H=.ret r):r.2=H:=by(have m:∀s,iop P o e H=some s->(∃v,s=.val v H)\/(∃g a,s=.enter g a H)\/∃l a,s=.round l a H:=by intro s b;unfold calm at u;cases d:zO o with|pure=>have⟨v,t,_⟩:=XL d H s b;grind|read=>grind[Xh]|call=>(have:∃f a n,o.op=.call ⟨.value f,a,n⟩:=by unfold zO at d;split at d<;>(simp_all);{grind};rename_i c x;split at d<;>(simp_all);have⟨j,a,n⟩:=c;grind);have⟨f,a,n,y⟩:=this;unfold iop at b;rw[y]at b;simp[zn]at b;split at b;{rename_i q p;unfold yg at p;grind};have⟨v,t,_⟩:=Loose.dry o e H s b;grind|alloc=>grind|fresh=>grind|write=>grind);unfold zf at h;cases b:iop P o e H with|none=>rw[b]at h;cases h|some s=>rw[b]at h;rcases m s b with⟨v,rfl⟩|⟨g,a,rfl⟩|⟨l,a,rfl⟩;{cases h;rfl};{have i:yG (iex P good nat 0) nat g a H=.ret r:=h;unfold yG at i;split at i;{rename_i k w;exact z g k w a H r i};cases i};cases h
structure DE(P:T')(lo:List (Nat×Nat×Nat))(l:List I')(i k:Nat)(env:Env)(H:IH)(eF:Env)(HF:IH)(hs:List IH)(rs:List Rec):Prop where
 heaps:∀m,m<=zi (l.take k)->(H::hs)[m]?=some H
 recs:∀r∈rs,∃j p,r.i=i+j/\l[j]?=some r.o/\kc r.i lo=some p/\(j<k->zO r.o=.read->iop P r.o r.env H=some (.val r.v H))/\(∀d,r.o.dst=some d->d<env.length->¬writes l (λk'=>j<k') d->eF.at d=r.v)
theorem Jm(S:o9 nat){B lo}:∀(l i k a H f g),(∀o∈l,qw o=false)->(∀o∈l.take k,calm o=true)->j3 P (iex P good nat 0) nat (B.toList.map (·.dst)) l a H=.ret (f,g)->∃c b,bE P (iex P good nat 0) nat B lo l i a H=some (f,g,c,b)/\DE P lo l i k a H f g c b|[],i,k,a,H,f,g,_,_,h=>by cases h;refine⟨[],[],rfl,⟨λm u=>?_,λr e=>by cases e⟩⟩;simp[zi]at u;subst u;rfl|o::l,i,k,a,H,f,g,ha,hc,h=>by have C:=ha o qFE;rw[XV,C];simp only[cond_false];rw[cS,<-XG]at h;unfold goE xO at h;(have s:∀z∈l.take (k-1),calm z=true:=by intro z w;cases k with|zero=>simp at w|succ k=>grind);have F:∀z∈l,qw z=false:=λz w=>ha z (qFC _ w);(have t:∀(v)(K)(c)(b x),DE P lo l (i+1) (k-1) (a.zU o.dst v) K f g c b->(0<k->K=H)->(∀r∈x,r∈b\/(r.i=i/\r.o=o/\r.env=a/\r.v=v/\(∃p,kc i lo=some p)/\(0<k->zO o=.read->iop P o a H=some (.val v H))/\(∀d,o.dst=some d->d<a.length->¬writes l (λ_=>True) d->f.at d=v)))->DE P lo (o::l) i k a H f g (gx (zO o).eff K c) x:=by intro v K c b x J hH e;refine⟨λm u=>?_,λr hr'=>?_⟩;{cases k with|zero=>simp[zi]at u;subst u;rfl|succ k=>have V:=hH (by omega);subst V;rw[qGZ,sk]at u;simp only[Nat.add_sub_cancel]at J;by_cases M:zT o=true;{have y:(zO o).eff=true:=M;rw[y];cases m with|zero=>rfl|succ m=>rw[if_pos M]at u;exact J.heaps m (by omega)};(have y:(zO o).eff=false:=by simpa[zT]using M);rw[y];rw[if_neg M]at u;exact J.heaps m (by omega)};rcases e r hr' with h1|⟨h1,h2,h3,h4,⟨p,h5⟩,h6,h7⟩;{obtain⟨j,p,g1,g2,g3,g4,g5⟩:=J.recs r h1;refine⟨j+1,p,by omega,by simpa using g2,g3,λhj s=>?_,λd D I E=>g5 d D (by rw[oB];exact I) ?_⟩;{grind};rintro⟨Y,N,q1,W,q3,q4⟩;exact E ⟨Y+1,N,by omega,by simpa using W,q3,q4⟩};refine⟨0,p,by omega,by simp[h2],by rw[h1];exact h5,λhj s=>?_,λd D I E=>?_⟩;{grind};rw[h4];refine h7 d (by rw[<-h2];exact D) I ?_;rintro⟨Y,N,_,W,q3,q4⟩;exact E ⟨Y+1,N,by omega,by simpa using W,q3,q4⟩);split at h;{rename_i Q;rw[Q];cases A:zf P (iex P good nat 0) nat o a H with|fail=>rw[A]at h;cases h|ch n k=>rw[A]at h;cases h|sp p k=>rw[A]at h;cases h|ret q=>rw[A]at h;obtain⟨c,b,L,O⟩:=Jm S l (i+1) (k-1) _ _ f g F s h;have Z:=oD l _ _ _ _ _ _ _ L;refine⟨gx (zO o).eff q.2 c,nC (kc i lo) i o a q.1 b,by simp only[xO,p0,fP,Qr,L],t q.1 q.2 c b _ O ?_ ?_⟩;{intro hk;cases k with|zero=>omega|succ k=>exact SB S (hc o (by rw[qGZ];exact qFE)) A};intro r e;unfold nC at e;split at e;{rename_i p U;rcases qF1.1 e with rfl|e;{refine .inr ⟨rfl,rfl,rfl,rfl,⟨p,U⟩,λhk R=>?_,λd D I E=>?_⟩;{(have X:zT o=false:=by unfold zT;rw[R];rfl);obtain⟨g1,g2⟩:=Xv X C A;exact g2};rw[Z.keep d E,D,sV I]};exact .inl e};exact .inl e};{rename_i Q;rw[Q];obtain⟨c,b,L,O⟩:=Jm S l (i+1) (k-1) _ _ f g F s h;exact⟨gx (zO o).eff H c,b,by simp only[xO,pc,L],t undef H c b _ O (λ_=>rfl) λr e=>.inl e⟩};cases h
def simple:P'->Bool|.int _ _=>true|.bool _=>true|.slice _ _ _=>true|.pointer _=>true|.map _=>true|_=>false
theorem Pa{v}(h:simple v=true):veq v v=true:=by(cases v<;>first|cases h|skip);(case bool b=>cases b<;>rfl);(case int k n=>show(k==k&&n==n)=true;simp);(case pointer a=>show(a==a)=true;simp);(case map a=>show(a==a)=true;simp);case slice a l c=>show(a==a&&(l==l&&c==c))=true;simp
noncomputable def bK(a:Array I')(i:Nat):=((a[i]?).bind (·.dst)).getD 0
def Hl(a:List (Nat×Nat×Nat))(k n):=a.all λp=>decide (p.1<k)&&decide (p.2.2<=n)
theorem Gz{i p}:∀(l),kc i l=some p->(i,p)∈l|[],h=>by cases h|a::l,h=>by have b:kc i (a::l)=cond (Nat.beq a.1 i) (some a.2) (kc i l):=rfl;rw[b]at h;cases c:Nat.beq a.1 i with|true=>grind[Nat.eq_of_beq_eq_true]|false=>rw[c]at h;exact qFC _ (Gz l h)
theorem PR{a i p}(h:(i,p)∈loose a){o}(b:a[i]?=some o):zO o=.read:=by grind[loose,tj]
theorem FH{b c r}:∀(a m),(∀k E,a[k]?=some E->b<=m+k->m+k<=c->cc r.v (iop P r.o r.env E)=true)->gU P b c r a m=true|[],_,_=>rfl|h::a,m,d=>by have e:gU P b c r (h::a) m=cond (Nat.ble b m&&Nat.ble m c) (cond (cc r.v (iop P r.o r.env h)) (gU P b c r a (m+1)) false) (gU P b c r a (m+1)):=rfl;rw[e,(FH a (m+1) λk E j g i=>d (k+1) E (by grind) (by omega) (by omega))];cases f:(Nat.ble b m&&Nat.ble m c)with|false=>rfl|true=>simp only[qEv]at f;rw[d 0 h rfl (qFB f.1) (qFB f.2)];rfl
theorem Hf:∀(l a H),(∀o∈l,qw o=false)->uj P l a H=some (a,H)|[],_,_,_=>rfl|o::l,a,H,h=>by unfold uj;rw[h o qFE];exact Hf l a H λc b=>h c (qFC _ b)
theorem Ta(Z:o9 nat){a e b H z}(k)(V:jV a=true)(ha:(a.toList.all λo=>!qw o)=true)(S:((a.toList.take k).all calm)=true)(U:Hl (loose a) k (zi (a.toList.take k))=true)(s:∀p∈loose a,bK a p.1<e.length/\((a[p.1]?).bind (·.dst)).isSome=true)(L:∀p∈loose a,simple (b.at (bK a p.1))=true)(h:j3 P (iex P good nat 0) nat (a.toList.map (·.dst)) a.toList e H=.ret (b,z)):uk P (iex P good nat 0) nat a e H=some (b,z):=by(have n:∀o∈a.toList,qw o=false:=λo C=>by grind);have⟨v,R,X,B⟩:=Jm (lo:=loose a) Z a.toList 0 k e H b z n (λo C=>qEy.1 S o C) h;unfold uk;rw[Hf _ _ _ n];simp[X,tf];(have w:ai a=[]:=by grind[ai,KN,qw,List.filter_eq_nil_iff]);(have f:zG (eo P (loose a) (H::v)) R=true:=by rw[ku];intro r J;have⟨j,p,h1,h2,A,O,Y⟩:=B.recs r J;have u:=Gz _ A;have x:=qEy.1 U _ u;simp[qEv]at x;(have hj:=by omega);(have t:a[r.i]?=some r.o:=by grind);have N:=O (by omega) (PR u t);unfold eo;simp[A];refine FH _ 0 λq E F M Q=>?_;have D:=B.heaps q (by omega);rw[F]at D;cases D;rw[N];have m:=L _ u;have⟨g,c⟩:=s _ u;simp[t]at c;have⟨d,i⟩:=qFZ.1 c;(have l:bK a r.i=d:=by grind[bK]);simp[l]at g m;have f:=QH V;have y:=Y d i g (by rintro⟨I,W,q1,q2,q3,K⟩;exact f.dst j I r.o W d (by omega) (by grind) (by grind) i K);rw[<-y];exact Pa m);rw[f,w];rfl
theorem Setup.EH(s:Setup P good nat G)(w:o9 nat)(k){id a y d b H j Q q lo}(m:y4 G a=true)(n:jV a=true)(t:(a.toList.all λo=>!qw o)=true)(v:((a.toList.take k).all calm)=true)(l:loose a=lo)(r:Hl lo k (zi (a.toList.take k))=true)(f:lo.all (λp=>((a[p.1]?).bind (·.dst)).isSome)=true)(i:a.toList.map (·.dst)=q)(h:j3 P (iex P good nat 0) nat q a.toList d H=.ret (b,j))(u:(lo.all λp=>Nat.blt (bK a p.1) d.length&&simple (b.at (bK a p.1)))=true)(z:Holds P G rd y b j Q):Holds P G rd (.seq (.region id a true) y) d H Q:=by subst i l;(have g:∀p∈loose a,bK a p.1<d.length/\simple (b.at (bK a p.1))=true:=λp c=>by have:=qEy.1 u p c;simp_all);exact Holds.EG (Q1:=λe h=>e=b/\h=j) (s.draw 0 m n (Ta w k n t v r (λp c=>⟨(g p c).1,qEy.1 f p c⟩) (λp c=>(g p c).2) h) ⟨rfl,rfl,rfl⟩) λe h⟨x,A⟩=>by grind
end Go.Idl
namespace Go.Idl
variable{P:T'}{good:C'->Bool}{nat:qj}{G:Nat->Bool}{rd:Bool}
end Go.Idl
namespace Go.Idl
end Go.Idl
namespace Go.Idl
variable{P:T'}
def Qq(f:Inj):=∀b e,f b=some e->e.ro=true
end Go.Idl
namespace Go.Idl
variable{P:T'}
end Go.Idl
namespace Go.Idl
variable{P:T'}{good:C'->Bool}{nat:qj}{G:Nat->Bool}{rd:Bool}
variable{H:IH}{Q:Out->Prop}{args:List P'}{c x y:Code}{ds:List (Option Tmp)}{env:Env}{g:C'}{id l l0:Nat}{ops:Array I'}{p:P'×IH->Prop}
inductive WkL:List P'->List P'->Prop|nil:WkL [] []|same{v:P'}{l m:List P'}(h:WkL l m):WkL (v::l) (v::m)|any{v:P'}{l m:List P'}(h:WkL l m):WkL (v::l) (unk::m)
theorem WkL.trans{a b c}(h:WkL a b):WkL b c->WkL a c:=by induction h generalizing c with|nil=>grind|same _ d=>intro k;(cases k with|same k=>exact .same (d k)|any k=>exact .any (d k))|any _ d=>intro k;cases k with|same k=>exact .any (d k)|any k=>exact .any (d k)
def Wk(R:Env->IH->Prop):Env->IH->Prop:=λe h=>∃a,WkL e a/\R a h
open Classical in noncomputable def rm{α:Type}(b:α->List P'->IH->Prop)(a:α->IH->P'->IH->Prop):List P'->IH->T (P'×IH):=λargs H=>if h:∃x,b x args H then .sp (λr=>a (Classical.choose h) H r.1 r.2) .ret else .fail
noncomputable def gI(nat:qj)(g:C'){α}(b:α->List P'->IH->Prop)(a:α->IH->P'->IH->Prop):qj:=λx=>cond (Nat.beq x g) (some (rm b a)) (nat x)
theorem I2{α a b}(d:∀x y args H,a x args H->a y args H->x=y){x:α}{args H}(e:a x args H):rm a b args H=.sp (λr=>b x H r.1 r.2) .ret:=by have h:∃x,a x args H:=⟨x,e⟩;grind[rm]
theorem Ss{α b}{a:α->IH->P'->IH->Prop}(e:jX nat):jX (gI nat g b a):=by intro x y h args H;unfold gI at h;cases d:Nat.beq x g with|false=>rw[d]at h;exact e x y h args H|true=>rw[d]at h;cases h;unfold rm;split<;>exact trivial
def yU(P G g args H Q):=∀(a:List P')(f:Inj)(w:J'),Rel P f H w->z6 G f->qJ P f args a->CallsIn Fence.wide 0 P g a.toArray w (Comes P f H w Q)
theorem yU.mono{g args H Q b}(h:yU P G g args H Q)(d:∀r,Q r->b r):yU P G g args H b:=by intro a f w t i q;refine CallsIn.mono (h a f w t i q) ?_;rintro e v⟨o,r,s,u,m,n,k,j⟩;exact⟨o,r,s,u,d r m,n,k,j⟩
theorem yU.of{a Q N}(b:P.funcs[g]?=some a)(m:a.body=some c)(e:a.ntmps=N)(h:Holds P G false c (args++List.replicate (N-args.length) undef) H λo=>(o.e=.normal\/o.e=.ret)/\∃v,wQ P a o.env o.H=some v/\Q (v,o.H)):yU P G g args H Q:=by subst e;exact λd f w k i j=>Pl b m k i j h
theorem Setup.gI(s:Setup P good nat G){g α}(i)(b:α->IH->P'->IH->Prop)(n:∀x args H,i x args H->yU P G g args H λr=>b x H r.1 r.2):Setup P good (Go.Idl.gI nat g i b) G:=by refine⟨s.mix,Ss s.ext,?_,s.good⟩;intro x y h args a H f w Q j m k e;unfold Go.Idl.gI at h;cases d:Nat.beq x g with|false=>rw[d]at h;exact s.spec x y h args a H f w Q j m k e|true=>rw[d]at h;have t:=qEu d;subst t;cases h;unfold rm at e;split at e;{rename_i q;exact(n _ args H (Classical.choose_spec q)).mono (λr o=>e r o) a f w j m k};exact e.elim
def cp(P G l args H Q):=∀(b:List P')(f:Inj)(w:J')(e:Emb),Rel P f H w->z6 G f->f l=some e->qJ P f args b->∃i d a h,(Instr.yield e.r b.toArray).run P w=.ok (.round e.r i d a h) w/\RoundIn Fence.wide 0 P e.r i d a h w (Comes P f H w Q)
theorem cp.mono{l args H Q j}(h:cp P G l args H Q)(u:∀r,Q r->j r):cp P G l args H j:=by intro b f w e C s z q;have⟨t,i,a,d,o,A⟩:=h b f w e C s z q;refine⟨t,i,a,d,o,RoundIn.mono A ?_⟩;rintro e F⟨v,r,D,E,B,k,n,m⟩;exact⟨v,r,D,E,u r B,k,n,m⟩
noncomputable def Jo(a:Nat->List P'->IH->T (P'×IH)):Job->IH->T Out|.round l args,H=>(a l args H).bind λr=>.ret ⟨.normal,[r.1],r.2⟩|_,_=>.fail
def C3(P G)(a:Nat->List P'->IH->T (P'×IH)):=∀l args H Q,(a l args H).holds Q->cp P G l args H Q
theorem lI{t:T (P'×IH)}{Q}(h:((t.bind λr=>.ret ⟨.normal,[r.1],r.2⟩).bind wT).holds Q):t.holds Q:=by rw[T.kG,T.kG]at h;exact T.kj (λr a=>a) _ h
theorem TZ{b}(h:C3 P G b):gV P G (Jo b):=by intro l args a H f w e Q k m i j d;exact h l args H Q (lI d) a f w e k m i j
theorem Ot{a}:mb (Jo a) nat (some (.round l args H))=((a l args H).bind λr=>.ret ⟨.normal,[r.1],r.2⟩).bind wT:=rfl
theorem Rb{Q i}(hg:H.get l=some (.loop i))(bw:i.state=.ready)(A:args.length=i.params.size)(hb:Holds P G true i.assign ((i.params.toList.zip args).foldl (λe p=>qZ e p.1 p.2) i.tmps.toList) H λo=>o.e=.normal/\∃b,o.H.get l=some (.loop b)/\b.state=.ready/\Holds P G true i.body o.env (o.H.put l (.loop {b with state:=.busy})) λs=>∃m,s.H.get l=some (.loop m)/\Q (.bool (xe s.e).isNone,s.H.put l (.loop {m with state:=if(xe s.e).isNone then .ready else .done,pending:=xe s.e}))):cp P G l args H Q:=by intro r f w e hR W he ha;have⟨UR,d,X,g1,g2,g3,g4,g5,g6,g7,g8,g9,g10⟩:=gb hR he hg;refine⟨d.fn,_,d.assign,d.body,run_yield X (by rw[g3,<-A,ha.1];simp),?_⟩;(have E:qJ P f ((i.params.toList.zip args).foldl (λe p=>qZ e p.1 p.2) i.tmps.toList) ((d.params.zip r.toArray).foldl (λu(t,a)=>u.setIfInBounds t a) d.tmps).toList:=by rw[<-qG5,Array.toList_zip];grind[KZ,K1]);refine roundIn_of_wpIn trivial ?_;rw[g4,g5];refine wpIn_mono (hb w.heap.size (Fence.wide.inRound e.r) f _ w (sZ _) ⟨rfl,λl h=>by have:=qF3 h;subst this;exact⟨_,X⟩⟩ hR W E (qEw _)) ?_;rintro ex a1 w1⟨o,f1,⟨K,b,C,U,hq⟩,rfl,S,L,k3,k4⟩;rw[K];have q:=L.le _ _ he;have⟨_,j,J,q2,q3,q4,q5,q6,q7,q8,q9,M,q11⟩:=gb S q C;refine⟨_,run_beginRound J (by grind),?_⟩;have⟨V,F⟩:=eW .busy b.pending M S q C J;(have Z:({j with state:=.busy,pending:=b.pending})={j with state:=.busy}:=by grind);rw[Z]at V;rw[Z]at F;refine wpIn_mono (hq w.heap.size (Fence.wide.inRound e.r) f1 a1 _ (sZ _) ⟨rfl,λl h=>by have:=qF3 h;subst this;exact F.lps _ ⟨_,J⟩⟩ V (W.mono L.le) k3 (Marks.grow F _ k4)) ?_;rintro ex2 a2 w2⟨s,f2,⟨m,z,hs⟩,rfl,N,s2,s3,s4⟩;have D:=s2.le _ _ q;have⟨_,R,O,t2,t3,t4,t5,t6,t7,t8,t9,t10,t11⟩:=gb N D z;(have k:∀c,xe s.e=some c->oz c=true:=by intro c I;cases n:s.e<;>rw[n]at I<;>simp[xe]at I<;>subst I<;>rfl);have⟨u1,u2⟩:=eW (if(xe s.e).isNone then .ready else .done) (xe s.e) k N D z O;have B:∃v Y,(Instr.endRound e.r (xe s.e)).run P w2=.ok v Y/\Comes P f H w Q (.returned v) Y:=⟨_,_,run_endRound (xe s.e) O,⟨_,_,f2,rfl,hs,u1,((L.trans F).trans s2).trans u2,.base _ rfl⟩⟩;cases n:s.e with|_=>rw[n]at B;exact B
theorem Setup.qAL(s:Setup P good nat G){v S e b J}(hv:yE G v=true)(hx:codeOk G true x=true)(Y:codeOk G true y=true)(u:env.val v=.func (.func g) e b)(E:entered P g=true)(q:yU P G g (xj e.toList (.func (.yield H.size) #[] #[]::b.toList)) (H.push (.loop {state:=.ready,pending:=none,fn:=0,tmps:=env.toArray,params:=S,assign:=x,body:=y,defers:=0})) J)(hq:∀r,J r->(aD (iex P good nat 2) H.size env r).holds Q):Holds P G rd (.rangeFunc v S x y) env H Q:=by classical intro B F f a w hF m Z M D X;let L:=xj e.toList (.func (.yield H.size) #[] #[]::b.toList);let R:=H.push (.loop {state:=.ready,pending:=none,fn:=0,tmps:=env.toArray,params:=S,assign:=x,body:=y,defers:=0});let i:qj:=λK=>if K=g then some (λargs z=>if args=L/\z=R then .sp J .ret else .fail)else none;(have V:ve P G i:=by intro K k C args h z U W N n o t d;simp only[i]at C;split at C;{rename_i O;subst O;cases C;change T.holds N (if args=L/\z=R then T.sp J T.ret else T.fail)at d;split at d;{rename_i I;obtain⟨rfl,rfl⟩:=I;exact(q.mono λr m=>d r m) h U W n o t};exact d.elim};grind);let A:Job->IH->T Out:=λj H=>match j with|.code c env=>iex P good nat 2 (.code c env) H|_=>.fail;(have I:v7 P G (yG A i):=by intro K args h z U W N n o t d;unfold yG at d;split at d;{rename_i k C;exact V K k C args h z U W N n o t d};exact d.elim);refine HU I (((Gw s.ext s.spec s.good (λ_ _ I m=>GG s.mix I m) 2).1)) hF m Z M (cN M hv) (xH M _ _ hx) (xH M _ _ Y) D X ?_;unfold gX;rw[u];simp[E];unfold yG;simp[i,L,R];exact λr m=>hq r m
end Go.Idl
namespace Go.Idl
variable{P:T'}
variable{H H':IH}{b hi i lo nr:Nat}{el st:B'}{fz:Nat×Nat}{o:Obj}{rows vs:List P'}{v:P'}{z:Int}{zs:List Int}{UY:List (List Int)}
def Grown(H:IH)(el:B')(lo)(v:P')(vs):=(vs=[]/\v=.slice none 0 0)\/∃b,lo<=b/\b<H.size/\v=.slice (some ⟨b,0,some el⟩) vs.length vs.length/\H.get b=some (.cells vs.toArray el zb)
theorem Grown.nil(H el lo):Grown H el lo (.slice none 0 0) []:=.inl ⟨rfl,rfl⟩
theorem RR(h:H.get b=some (.cells vs.toArray el fz)):H.loads b 0 vs.length=some vs:=by unfold IH.loads;rw[h];simp
theorem eA(a:b<H.size):(H.push o).get b=H.get b:=by rw[IH.ki,if_neg (by omega)]
theorem XE:(H.push o).get H.size=some o:=by rw[IH.ki,if_pos rfl]
theorem uQ{x}(h:x≠b):(H.put b o).get x=H.get x:=by rw[IH.get_put,if_neg h]
theorem sa:(H.put b o).get b=some o:=by rw[IH.get_put,if_pos rfl]
def Iz(H:IH)(el lo hi)(v:P')(zs):=(zs=[]/\v=.slice none 0 0)\/∃b c a fz,lo<=b/\b<hi/\b<H.size/\v=.slice (some ⟨b,0,c⟩) zs.length a/\H.get b=some (.cells (zs.map (Value.int .i64)).toArray el fz)
def Cj(H el lo hi)(rows:List P')(UY:List (List Int)):=rows.length=UY.length/\∀(i:Nat)r zs,rows[i]?=some r->UY[i]?=some zs->Iz H el lo hi r zs
theorem Cj.nil(H el lo hi):Cj H el lo hi [] []:=⟨rfl,λi r zs h=>by simp at h⟩
end Go.Idl
namespace Go.Idl
variable{P:T'}{good:C'->Bool}{nat:qj}{G:Nat->Bool}{rd:Bool}
variable{H H1:IH}{I:Nat->Env->IH->Prop}{J:Env->IH->Prop}{Q:Out->Prop}{ds:List (Option Tmp)}{env km gH:Env}{id id' n My:Nat}{o:I'}{ops:Array I'}{t:Bool}{u:B'}{v:K'}{x x2 y:Code}
theorem Setup.ifZ(s:Setup P good nat G)(b:y4 G ops=true)(c:ops.toList.map (·.dst)=ds)(h:j3 P (iex P good nat 0) nat ds ops.toList env H=.ret (gH,H1))(a:yE G v=true)(d:gH.val v=.bool t)(f:t=true->Holds P G rd x gH H1 Q)(e:t=false->Holds P G rd x2 gH H1 Q):Holds P G rd (.seq (.region My ops false) (.cond v x x2)) env H Q:=s.Vp 0 b c h (.cond a d f e)
theorem Dv{x y t}:zn P o ⟨.builtin .append,#[x,y],#[t,u]⟩ env H=(match wR P #[t,u] [env.val x,env.val y] H with|some r=>some r|none=>qn P o env H):=rfl
theorem C9{x y t}:zn P o ⟨.builtin .copy,#[x,y],#[t,u]⟩ env H=(match wa P #[t,u] [env.val x,env.val y] H with|some r=>some r|none=>qn P o env H):=rfl
theorem GJ:bI (some H)=some (.val undef H):=rfl
end Go.Idl
namespace Go.Idl
variable{P:T'}
end Go.Idl
namespace Go.Idl
variable{P:T'}
end Go.Idl
namespace Go.Idl
variable{P:T'}{good:C'->Bool}{nat:qj}{G:Nat->Bool}{rd:Bool}
end Go.Idl
namespace Go.Idl
variable{P:T'}
end Go.Idl
namespace Go.Idl
variable{P:T'}
variable{H:IH}{b i lo:Nat}{el st:B'}{k:L'}{v:P'}{x:Int}{zs:List Int}
def OwnAt(H:IH)(el lo)(v:P')(zs:List Int):=∃b c a,lo<=b/\b<H.size/\v=.slice (some ⟨b,0,c⟩) zs.length zs.length/\H.get b=some (.cells (zs.map (Value.int .i64)).toArray el a)/\vk a=true
theorem Grown.own(h:Grown H el lo v (zs.map (Value.int .i64)))(c:zs≠[]):OwnAt H el lo v zs:=by rcases h with⟨a,_⟩|⟨b,a,e,rfl,d⟩;{simp at a;exact absurd a c};exact⟨b,some el,zb,a,e,by rw[qFK],d,rfl⟩
end Go.Idl
namespace Go.Idl
variable{P:T'}{good:C'->Bool}{nat:qj}{G:Nat->Bool}{rd:Bool}
variable{H H1 HA:IH}{Q:Out->Prop}{ds:List (Option Tmp)}{env gH qAM:Env}{id:Nat}{l:List I'}{lo:List (Nat×Nat×Nat)}{o:I'}{ops:Array I'}{v:P'}
def Keeps(H a:IH):=∀b o,H.get b=some o->a.get b=some o
theorem Keeps.trans{c}(a:Keeps H H1)(b:Keeps H1 c):Keeps H c:=λx o h=>b x o (a x o h)
end Go.Idl
namespace Go.Idl
variable{P:T'}{good:C'->Bool}{nat:qj}{G:Nat->Bool}{rd:Bool}
variable{H H1 HA:IH}{Q:Out->Prop}{ds:List (Option Tmp)}{env gH qAM:Env}{hF hs:List IH}{id:Nat}{l:List I'}{lo:List (Nat×Nat×Nat)}{o:I'}{ops:Array I'}
end Go.Idl
namespace Go.Idl
variable{P:T'}
variable{H:IH}{b i n:Nat}{el t:B'}{fz:Nat×Nat}{l:List P'}{v:P'}
theorem Xe(a:kf P t=some false)(h:H.get b=some (.cells l.toArray el fz))(c:l[i]?=some v):ky P t (.pointer (some ⟨b,i,none⟩)) H=some v:=by refine Sx a ?_;unfold IH.load;rw[h];simpa using c
theorem P9(d:szT P t=some 1)(c:v.cells=#[v])(e:oneCell v=true)(h:H.get b=some (.cells l.toArray el fz))(f:i<l.length)(g:vk fz=true)(a:H.base<=b):uY P t (.pointer (some ⟨b,i,none⟩)) v H=some (H.put b (.cells (l.set i v).toArray el fz)):=by unfold uY;simp only[d,c];rw[if_pos (by rfl)];unfold IH.stores;rw[h];simp only;rw[if_pos];{congr 3;apply qHL;show overwrite l i [v]=_;unfold overwrite;simp only[List.length_singleton];rw[qGB,if_pos f];simp};simp[g,a,e];omega
end Go.Idl
namespace Go.Idl
variable{P:T'}{good:C'->Bool}{nat:qj}{G:Nat->Bool}{rd:Bool}
variable{H H':IH}{Q:P'×IH->Prop}{args:List P'}{env:Env}{r:P'×IH}{v:P'}{x y:Code}{zs:List Int}
open Classical in noncomputable def rS(b:Nat)(a:List P')(d:IH)(c:P'×IH->Prop):Nat->List P'->IH->T (P'×IH):=λl args H=>if l=b/\args=a/\H=d then .sp c .ret else .fail
theorem TX{l}:rS l args H Q l args H=.sp Q .ret:=by grind[rS]
theorem Pd{l}(h:cp P G l args H Q):C3 P G (rS l args H Q):=by intro f b H' e a;unfold rS at a;split at a;{rename_i c;have⟨rfl,rfl,rfl⟩:=c;exact h.mono λr d=>a r d};exact a.elim
theorem PZ{o f args a l}(b:env.val f=.func (.yield l) #[] #[]):zn P o ⟨.value f,args,a⟩ env H=some (.round l (qs env.val args.toList) H):=by(have:yg P ⟨.value f,args,a⟩ env H=some (.round l (qs env.val args.toList) H):=by grind[yg]);grind[zn]
theorem R5{l}:mb (Jo (rS l args H Q)) nat (some (.round l args H))=.sp Q .ret:=by rw[Ot,TX];rfl
structure Fr(T:Nat->Prop)(H H':IH):Prop where
 size:H.size<=H'.size
 base:H'.base=H.base
 get:∀b,b<H.size->¬T b->H'.get b=H.get b
theorem Fr.trans{T g H e d}(a:Fr T H e)(b:Fr g e d)(i:∀x,x<H.size->g x->T x):Fr T H d:=⟨qFO a.size b.size,b.base.trans a.base,λx c f=>(b.get x (qEz c a.size) λh=>f (i x c h)).trans (a.get x c f)⟩
theorem Setup.qAN(s:Setup P good nat G){v h H Q g b a}(i:yE G v=true)(k:codeOk G true x=true)(j:codeOk G true y=true)(e:env.val v=.func (.func g) b a)(d:entered P g=true)(n:∀c:Loop,c.state=.ready->c.pending=none->c.tmps.toList=env->c.params=h->c.assign=x->c.body=y->∃f,yU P G g (xj b.toList (.func (.yield H.size) #[] #[]::a.toList)) (H.push (.loop c)) f/\∀r,f r->(aD (iex P good nat 2) H.size env r).holds Q):Holds P G rd (.rangeFunc v h x y) env H Q:=by have⟨f,m,l⟩:=n {state:=.ready,pending:=none,fn:=0,tmps:=env.toArray,params:=h,assign:=x,body:=y,defers:=0} rfl rfl rfl rfl rfl rfl;exact s.qAL i k j e d m l
theorem T2{l a c Q}(g:r.2.get l=some (.loop a))(f:a.state=.ready)(d:a.pending=none)(e:∀b,Q ⟨.normal,env,r.2.put l (.loop b)⟩):(aD c l env r).holds Q:=by cases a;subst f d;unfold aD;rw[g];exact e _
structure qAO(n:Nat)(H H':IH):Prop where
 size:H.size<=H'.size
 base:H'.base=H.base
 get:∀b,b<H.size->(b<n\/∀lp,H.get b≠some (.loop lp))->H'.get b=H.get b
theorem Old.l(h:Old H H')(n):qAO n H H':=⟨h.size,h.base,λb a _=>h.get b a⟩
end Go.Idl
