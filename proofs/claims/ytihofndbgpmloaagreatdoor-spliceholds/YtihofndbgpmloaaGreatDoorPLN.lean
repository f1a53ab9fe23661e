/- Functions of the library whose contracts are plain: what they hand back, a world that is as it was but for new blocks. Conditions: none. -/
import Derived.Test.YtihofndbgpmloaaGreatDoorSvB
import Derived.Below
set_option linter.all false
namespace Go.Sv
open Go.Idl Go.RowKit
theorem Rel.below{P f H w g}(a:Rel P f H w)(c:Below w.heap.size w g):Rel P f H g where
 dom:=a.dom
 fresh:=a.fresh
 bound b e h:=qJf (a.bound b e h) c.size
 obj b e o d i:=by rw[c.block _ (a.bound b e d)];exact a.obj b e o d i
 sep:=a.sep
 jW:=a.jW
theorem Grow.below{P:Program}{f H w b}(a:Below w.heap.size w b):Grow f H w f H b where
 ku:=qJb _
 stay _ _ h:=h
 le:=λ_ _ h=>h
 size:=a.size
 keep r c d:=⟨d,a.block r c⟩;un r _ h:=h
 lps r h:=⟨h.choose,(a.block r h.lt).trans h.choose_spec⟩;out:=⟨a.os,a.output,a.tape⟩
theorem y6.quiet{P G g a v H Q}(m:zt a=true)(n:∀f,qK P f v v)(l:∀(f w),Rel P f H w->za G f->Calls P g a.toArray w λe h=>e=.returned v/\Below w.heap.size w h)(j:Q (v,H)):y6 P G g a H Q:=by intro b f w d i k;have:=k.plain m;subst this;refine callsIn_wide.2 ((l f w d i).mono ?_);rintro e h⟨rfl,c⟩;exact⟨v,(v,H),f,rfl,j,Rel.below d c,Grow.below (P:=P) c,n f⟩
end Go.Sv
namespace Go.Sv
open Go.Idl Go.RowKit
variable[Gc]{P:Program}{G:Nat->Bool}{good:FuncId->Bool}{T:zM}{IT:List (FuncId×yq)}
theorem Lib.mG(L:Lib P good G T IT)(g n k F)(d:enters P g=true)(h:∀x y,F x=some y->∃(c:List Value)(v:Value),(enL n).p x=c.map (λv=>PV.f (.v v))/\yN k y=ofC v/\zt c=true/\(∀f,qK P f v v)/\∀(f H w),GlH H->Rel P f H w->za G f->Calls P g c.toArray w λe D=>e=.returned v/\Below w.heap.size w D):Lib P good G ((g,⟨n,k,F⟩)::T) IT:=by refine L.XT g n k F d fun{q}s x y a H o E M K=>?_;obtain⟨c,v,C,J,I,z,A⟩:=h x y o;obtain⟨Z,l,N⟩:=E;(have b:a=c:=by rw[C]at l;have p:=l.len;rw[qJq]at p;apply qKY;intro i;cases m:c[i]? with|none=>rw[List.getElem?_eq_none_iff]at m⊢;omega|some u=>(have j:i<a.length:=by rw[<-p];exact(qKE.1 m).1);rw[qJe j];have:=l.val i (PV.f (.v u)) a[i] (by rw[qKZ,m];rfl) (qJe j);cases this with|f r=>cases r;rfl);subst b;refine y6.quiet I z (λf w B t=>A f H w K B t) ⟨⟨qJb _,rfl,λ_ _=>rfl⟩,y,o,λ_=>False,λ_ h=>h.elim,λ_ h=>h.elim,?_⟩;rw[J];exact bO v
end Go.Sv
