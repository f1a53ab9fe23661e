/- Rules for what told forms come to. Conditions: none. -/
import Derived.Test.YtihofndbgpmloaaGreatDoorVA
set_option linter.all false
namespace Go.Sv
open Go.Idl
variable[Gc]
section
variable{R α σ ρ τ:Type}{Q:R->Prop}
def OkT(t)(Q:R->Prop):=∃r,t=some r/\Q r
theorem OkT.mono{t a}(h:OkT t Q)(b:∀r,Q r->a r):OkT t a:=by have⟨r,d,c⟩:=h;exact⟨r,d,b r c⟩
theorem OkT.eq{t}{r:R}(h:OkT t (λx=>x=r)):t=some r:=by obtain⟨x,a,rfl⟩:=h;grind
theorem qB{r}(h:Q r):OkT (qA.ret r) Q:=⟨r,rfl,h⟩
theorem qJ{b}{x y:qA R}(a:b=true->OkT x Q)(c:b=false->OkT y Q):OkT (qA.ite b x y) Q:=by cases b with|true=>exact a rfl|false=>exact c rfl
theorem qU{b}{x y:qA R}(a:b=true)(c:OkT x Q):OkT (qA.ite b x y) Q:=by subst a;exact c
theorem qW{b}{x y:qA R}(a:b=false)(c:OkT y Q):OkT (qA.ite b x y) Q:=by subst a;exact c
theorem qO{o P}{k:α->qA R}(h:OkT o P)(b:∀a,P a->OkT (k a) Q):OkT (qA.bind o k) Q:=by obtain⟨a,rfl,c⟩:=h;exact b a c
theorem qF{o a}{k:α->qA R}(h:o=some a)(b:OkT (k a) Q):OkT (qA.bind o k) Q:=by subst h;exact b
theorem qP{n x k}(i:Nat)(b:x=(i:Int))(a:i<n)(h:OkT (k i) Q):OkT (qA.bind (idx n x) k) Q:=by subst b;rw[WI a];exact h
theorem qQ{l:List α}{i k}(a:i<l.length)(h:OkT (k l[i]) Q):OkT (qA.bind l[i]? k) Q:=by rw[qJe a];exact h
theorem zy{F}{K:ρ->qA R}(I:σ->Prop)(m:σ->Nat){s}(g:I s)(f:∀s,I s->OkT (F s) λo=>match o with|.inl b=>I b/\m b<m s|.inr t=>OkT (K t) Q):OkT (qA.bind (qL F s) K) Q:=by(have a:∀(n)(s),m s<n->I s->OkT (qA.bind (qL F s) K) Q:=by intro n;induction n with|zero=>grind|succ n i=>intro s h e;have⟨o,d,c⟩:=f s e;rw[uk,d];cases o with|inl b=>grind|inr t=>exact c);exact a (m s+1) s (by omega) g
theorem dj{F K}(n)(p:Nat->Prop)(t:Nat->τ)(e)(r:∀k,k<n->OkT (F (k:Int)) λo=>(p k/\o=.inr (t k))\/(¬p k/\o=.inl ((k+1:Nat))))(q:OkT (F n) λo=>o=.inr e)(i:∀k,k<n->p k->(∀j,j<k->¬p j)->OkT (K (t k)) Q)(f:(∀k,k<n->¬p k)->OkT (K e) Q):OkT (qA.bind (qL F 0) K) Q:=by(have c:∀(m k),k+m=n->(∀j,j<k->¬p j)->OkT (qA.bind (qL F (k)) K) Q:=by intro m;induction m with|zero=>intro k g b;(have:k=n:=by omega);subst this;obtain⟨o,a,rfl⟩:=q;rw[uk,a];exact f b|succ m s=>intro k g b;obtain⟨o,a,⟨d,rfl⟩|⟨d,rfl⟩⟩:=r k (by omega);{rw[uk,a];exact i k (by omega) d b};rw[uk,a];exact s (k+1) (by omega) λj l=>by grind);exact c n 0 (by omega) λj h=>by omega
theorem xp{S F}{K:τ->qA R}(n)(E:Nat->σ->S)(I:Nat->σ->Prop)(s){e}(l:e=E 0 s)(p:I 0 s)(g:∀k s,k<n->I k s->OkT (F (E k s)) λo=>∃a,o=.inl (E (k+1) a)/\I (k+1) a)(h:∀s,I n s->OkT (F (E n s)) λo=>∃t,o=.inr t/\OkT (K t) Q):OkT (qA.bind (qL F e) K) Q:=by(have i:∀(m k)(s),k+m=n->I k s->OkT (qA.bind (qL F (E k s)) K) Q:=by intro m;induction m with|zero=>intro k s f b;(have:k=n:=by omega);subst this;obtain⟨o,d,t,rfl,c⟩:=h s b;rw[uk,d];exact c|succ m j=>intro k s f b;obtain⟨o,d,a,rfl,c⟩:=g k s (by omega) b;grind[uk]);simp_all
end
end Go.Sv
