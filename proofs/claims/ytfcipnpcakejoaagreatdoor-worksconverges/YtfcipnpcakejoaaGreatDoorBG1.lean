/- Arguments that lie in the world are told by their types; from a function with a contract to the model's call. Conditions: none. -/
import Derived.Test.YtfcipnpcakejoaaGreatDoorSvB
import Derived.ChangeArms
import Derived.OpenShut
import Derived.WideShapes
import Derived.ChangeShapes
import Derived.Carry
set_option linter.all false
namespace Go.Sv
open Go.Idl
open Go.RowKit
variable[Gc]
variable{P:Program}{good:FuncId->Bool}{G:Nat->Bool}{k:Nat}{T:qs}{IT:List (FuncId×yX)}
def ZA(H:IH):=λb=>b<H.size
theorem _root_.Go.Idl.FR.up{H H':IH}(h:Old H H'){x:FV}{v:Value}(hx:FR (ZA H) H x v):FR (ZA H') H' x v:=hx.mono (λb hb=>qG8 hb h.size) h.size λb _ hb=>h.get b hb
theorem qAH{H c}(h:Old H c){e d}(f:FRL (ZA H) H e d):FRL (ZA c) c e d:=⟨f.len,λi x v a b=>(f.val i x v a b).up h⟩
theorem Ij{Z H}:FRL Z H [] []:=⟨rfl,λi x v h=>by grind⟩
def Ty.wf:(t:Ty)->t.sem->Prop|.int k,x=>(Lit.int k x).wf=true|.bool,_=>True|.str,x=>x.size<=maxLen|.unit,_=>True|.list _ t,c=>List.length c<=maxLen/\∀x∈(c:List t.sem),t.wf x|.pair a b,x=>a.wf x.1/\b.wf x.2|.raw,_=>True|.ol _ _,_=>True|.nif,_=>True|.fnv _,_=>True
def wfL:(a:List Ty)->TyL a->Prop|[],_=>True|[t],x=>t.wf x|t::u::a,x=>t.wf x.1/\wfL (u::a) x.2
def rV(P:Program):Nat->TypeId->Ty->Bool|0,_,_=>false|n+1,a,t=>Nat.beq (P.cellsOf a) t.w&&(match P.underlying a with|some (.int k)=>decide (t=.int k)|some .bool=>decide (t=.bool)|some .string=>decide (t=.str)|_=>false)
theorem IC{n a t}(h:rV P n a t=true):P.cellsOf a=t.w:=by cases n with|zero=>cases h|succ n=>unfold rV at h;simp_all
def Adds(P w)(t:Ty)(d):=∀(f:Inj)(H:IH),Rel P f H w->Zw f->∃(s:t.sem)(b:Inj)(a:IH)(c:List Value),Rel P b a w/\f.le b/\Zw b/\Old H a/\qK P b c d/\FRL (ZA a) a (t.cells s) c/\t.wf s
variable{w:World}
theorem Xo{t v}(s)(d:t.cells s=[.v v])(b:xU v=true)(g:oneCell v=true)(c:t.wf s):Adds P w t [v]:=by intro f H e a;exact⟨s,f,H,[v],e,f.le_refl,a,.refl H,.cons (.base v b) .nil,by rw[d];exact .cons (.v b g) Ij,c⟩
section
variable{Hh:Type}{enc:TypeId×Value->Hh}{held:Bool}
theorem Lt(j:0<w.heap.size):∀(n b t a f x),rV P n b t=true->DataW.trod enc P w 0 (λ_=>true) held a b f=some x->Adds P w t f|0,_,_,_,_,_,h,_=>by cases h|n+1,b,t,a,f,x,h,e=>by have i:=IC h;unfold rV at h;simp only[qG3]at h;obtain⟨_,h⟩:=h;split at h;{rename_i k c;have:=of_decide_eq_true h;subst this;obtain⟨z,rfl,_,d⟩:=DataW.trod_int c e;exact Xo z rfl rfl rfl d};{rename_i c;have:=of_decide_eq_true h;subst this;obtain⟨z,rfl,_⟩:=DataW.trod_bool c e;exact Xo z rfl rfl rfl trivial};{rename_i c;have:=of_decide_eq_true h;subst this;obtain⟨z,rfl,_,g⟩:=DataW.trod_string c e;exact Xo z rfl rfl rfl g};cases h
def Va(P:Program)(a:TypeId)(t:Ty):Bool:=match P.underlying a with|some .bool|some (.int _)|some .string=>t.one|_=>false
def Zl(P:Program)(n:Nat):List TypeId->List Ty->Bool|[],[]=>true|i::a,t::b=>rV P n i t&&(Va P i t&&Zl P n a b)|_,_=>false
theorem qAk{Z H M f t s c v o r b}(d:Va P c t=true)(j:Value.okWide P w r b c v)(n:qK P f o v.cells.toList)(l:FRL Z H (t.cells s) o):∃u,qJ P f u v/\VR P Z H M (t.pv s) u:=by unfold Va at d;(have one:t.one=true->(∃x,v.cells=#[x]/\v=x)->∃u,qJ P f u v/\VR P Z H M (t.pv s) u:=by rintro m⟨x,q,rfl⟩;rw[q]at n;rw[Ty.cells_one m]at l;obtain⟨u,p,rfl,i,y⟩:=l.qf;have⟨A,z,e,h,_⟩:=n.qf;cases e;refine⟨u,h,?_⟩;unfold Ty.pv;rw[m];exact .f i);split at d;{rename_i g;obtain⟨a,rfl⟩:=WideShapes.okWide_bool g j;exact one d ⟨_,rfl,rfl⟩};{rename_i k g;obtain⟨a,rfl⟩:=WideShapes.okWide_int g j;exact one d ⟨_,rfl,rfl⟩};{rename_i g;obtain⟨a,rfl⟩:=WideShapes.okWide_string g j;exact one d ⟨_,rfl,rfl⟩};grind
theorem Dr{H d}(h:Old H d){t:Ty}{s u}(c:VR P (ZA H) H (λ_=>none) (t.pv s) u):VR P (ZA d) d (λ_=>none) (t.pv s) u:=by unfold Ty.pv at c⊢;cases e:t.one with|true=>rw[e]at c;(cases c with|f c=>exact .f (c.up h))|false=>rw[e]at c;obtain⟨j,rfl,g⟩:=VR.eJ c;have:=(qAH h (pb g)).map (P:=P) (M:=λ_=>none);exact .agg (by simpa using this.len) λi x v a b=>this.val i x v a (by grind)
theorem Fs(Q:0<w.heap.size){n r o}:∀(y e b c E),Zl P n y e=true->DataW.TrodAll enc P w 0 (λ_=>true) held y b c E->(∀(j:Nat)i v,y[j]?=some i->b[j]?=some v->Value.okWide P w r o i v)->∀{f H},Rel P f H w->Zw f->∃(x:TyL e)(C:Inj)(A:IH)(M:List Value),Rel P C A w/\f.le C/\Zw C/\Old H A/\qK P C M b/\VRL P (ZA A) A (λ_=>none) (pvL e x) M/\wfL e x|[],[],b,c,E,_,a,_,f,H,F,l=>(by cases b with|nil=>exact⟨(),f,H,[],F,f.le_refl,l,.refl H,.nil,.nil,trivial⟩|cons=>cases c<;>exact a.elim)|[],_::_,_,_,_,h,_,_,_,_,_,_=>by cases h|_::_,[],_,_,_,h,_,_,_,_,_,_=>by cases h|i::y,t::e,b,c,E,h,a,m,f,H,F,l=>by cases b with|nil=>cases c<;>exact a.elim|cons v b=>cases c with|nil=>exact a.elim|cons d c=>obtain⟨p,q,⟨z,h1⟩,h2,rfl⟩:=a;simp[Zl]at h;have⟨c1,X,c3⟩:=h;have⟨s,f1,H1,us1,a1,J,a3,V,a5,Y,L⟩:=Lt Q n i t z _ _ c1 h1 f H F l;obtain⟨u,K,N⟩:=qAk X (m 0 i v rfl rfl) a5 Y;have⟨x,R,S,g,I,D,U,B,O,W,Z⟩:=Fs Q y e b c q c3 h2 (λj i v hi hv=>m (j+1) i v (by grind) (by grind)) a1 a3;cases e with|nil=>refine⟨s,R,S,u::g,I,Inj.le_trans J D,U,V.trans B,.cons (K.mono D) O,?_,L⟩;have:=W.len;(cases g with|nil=>exact .cons (Dr B N) .nil|cons=>cases this)|cons t2 e=>exact⟨(s,x),R,S,u::g,I,Inj.le_trans J D,U,V.trans B,.cons (K.mono D) O,.cons (Dr B N) W,L,Z⟩
theorem N5{j c}:∀{f b a e},DataW.TrodAll enc P w c j held f b a e->a.length=f.length|[],b,a,e,h=>(by cases b with|nil=>(cases a with|nil=>rfl|cons=>exact h.elim)|cons=>cases a<;>exact h.elim)|i::f,b,a,e,h=>by cases b with|nil=>cases a<;>exact h.elim|cons v b=>cases a with|nil=>exact h.elim|cons d a=>obtain⟨p,q,l,g,rfl⟩:=h;simp[N5 g]
theorem N6(o:laidOutB P=true){W n}(m:Below W.heap.size W n):∀(e c a f),(∀i∈e,P.readableRec i=true/\i<P.types.size)->DataW.TrodAll enc P W 0 (λ_=>true) true e c a f->(∀x∈f,x.block<W.heap.size)->DataW.TrodAll enc P n 0 (λb=>decide (b<W.heap.size)) true e c a f|[],c,a,f,_,h,_=>(by cases c with|nil=>(cases a with|nil=>exact h|cons=>exact h.elim)|cons=>cases a<;>exact h.elim)|i::e,c,a,f,l,h,g=>by cases c with|nil=>cases a<;>exact h.elim|cons v c=>cases a with|nil=>exact h.elim|cons d a=>obtain⟨p,q,r,t,rfl⟩:=h;exact⟨p,q,Below.trod o (l i (by simp)).1 (l i (by simp)).2 r m (λx s=>g x (by grind)),N6 o m e c a q (λj u=>l j (by grind)) t (λx s=>g x (by grind)),rfl⟩
end
def iY(P:Program)(a:List TypeId):=a.all λi=>P.readableRec i&&Nat.blt i P.types.size
theorem qCa{a}(h:iY P a=true):∀i∈a,P.readableRec i=true/\i<P.types.size:=λi b=>by have:=qG7.1 h i b;simp_all
theorem Lib.qCb{gl}(L:Lib P good (qV k) T IT)(a:∀g o,Gc.gc g=some o->g<k/\(nv gl k).get g=some o){g eg}{F:TyL eg->Option Bool}(hs:slT g T=some ⟨eg,[Ty.bool],F⟩)(R:∀x,wfL eg x->F x=some true){Hh I W}(z:Rel P (mz k) (nv gl k) W)(h0:0<W.heap.size){n r f is q}{O:List (DataW Hh)}{K}(hc:Zl P n is eg=true)(u:DataW.TrodAll I P W 0 (λ_=>true) true is q.toList O K)(B:∀(j:Nat)i v,is[j]?=some i->q[j]?=some v->Value.okWide P W r f i v):Calls P g q W λe W'=>e=.returned (.bool true)/\Below W.heap.size W W':=by have⟨x,f2,c,N,b1,X,Q,y,b5,b6,b7⟩:=Fs h0 is eg q.toList O K hc u (λj i v hi hv=>B j i v hi (by grind)) z (λb e p=>by rw[(aT p).2]);(have p:c.base<=c.size:=by rw[y.base];exact qHm _);have⟨U,H,s,V,_⟩:=L;letI:Yl:=⟨0⟩;have h:H g (pvL eg x)=Option.map (yC [Ty.bool]) (F x):=V g _ hs x;rw[R x b7]at h;(have⟨_,_,kk,A,d⟩:=(s.t g _ _ h).resolve_left λD=>by have⟨_,_,⟨cs,E⟩,_⟩:=D;cases E);refine(callsIn_wide.1 (s.s.spec g kk A N q.toList c f2 W _ b1 ((Pg k).mono X) b5 (d (ZA c) c N b6 (λb h=>h) p (λg o C=>⟨qG8 (a g o C).1 y.size,(y.get g (a g o C).1).trans (a g o C).2⟩) (λr=>Old c r.2/\∃t,VR P t r.2 (λ_=>none) (yC [Ty.bool] true) r.1) λv H' t a1 a2 a3 a4 Z=>⟨a1,t,Z⟩))).mono ?_;rintro e w'⟨v',r,Y,rfl,⟨J,t,S⟩,k1,m,M⟩;rw[(zV S rfl)]at M;refine⟨by rw[M.sD],m.out.1,m.out.2.2,m.out.2.1,m.size,λx D=>(m.keep x D ?_).2⟩;rintro⟨b,e,p,_,l⟩;rw[Q b e p]at l;grind
end Go.Sv
