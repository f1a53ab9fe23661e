/- Rules for what told forms come to. Conditions: none. -/
import Derived.Test.YtkmfigmiehpcpaaGreatDoorVA
set_option linter.all false
namespace Go.Sv
open Go.Idl
variable [Gc]
section
variable {R α σ ρ τ:Type}{Q:R->Prop}
def OkT (t:Option R)(Q:R->Prop):Prop:=∃ r,t=some r∧Q r
theorem OkT.eq {t:Option R}{r:R}(h:OkT t (fun x=>x=r)):t=some r:=by
 obtain⟨x,h1,rfl⟩:=h;exact h1
theorem qA {r:R}(h:Q r):OkT (zED.ret r) Q:=⟨r,rfl,h⟩
theorem zU {b:Bool}{x y:zED R}(h1:b=true->OkT x Q)(h2:b=false->OkT y Q):OkT (zED.ite b x y) Q:=by
 cases b with
 | true=>exact h1 rfl
 | false=>exact h2 rfl
theorem zS {b:Bool}{x y:zED R}(hb:b=true)(h1:OkT x Q):OkT (zED.ite b x y) Q:=by subst hb;exact h1
theorem yH {b:Bool}{x y:zED R}(hb:b=false)(h1:OkT y Q):OkT (zED.ite b x y) Q:=by subst hb;exact h1
theorem qN {o:Option α}{a:α}{k:α->zED R}(h:o=some a)(hk:OkT (k a) Q):OkT (zED.bind o k) Q:=by subst h;exact hk
theorem qQ {n:Nat}{x:Int}{k:Nat->zED R}(i:Nat)(hx:x=(i:Int))(hi:i < n)(h:OkT (k i) Q):OkT (zED.bind (idx n x) k) Q:=by
 subst hx;rw[qW0 hi];exact h
theorem qP {l:List α}{i:Nat}{k:α->zED R}(hi:i < l.length)(h:OkT (k l[i]) Q):OkT (zED.bind l[i]? k) Q:=by
 rw[zNX hi];exact h
theorem qMA {F:σ->Option (σ⊕ρ)}{K:ρ->zED R}(I:σ->Prop)(m:σ->Nat){s:σ}(h0:I s)
 (hs:∀ s,I s->OkT (F s) fun o=>match o with
   | .inl s'=>I s'∧m s' < m s
   | .inr t=>OkT (K t) Q):OkT (zED.bind (qW F s) K) Q:=by
 have key:∀ (n:Nat) (s:σ),m s < n->I s->OkT (zED.bind (qW F s) K) Q:=by
  intro n
  induction n with
  | zero=>intro s h;omega
  | succ n ih =>
    intro s hn hI;obtain⟨o,h1,h2⟩:=hs s hI;rw[wD,h1]
    cases o with
    | inl s'=>exact ih s' (by have:=h2.2;omega) h2.1
    | inr t=>exact h2
 exact key (m s+1) s (by omega) h0
theorem vM {F:Int->Option (Int⊕τ)}{K:τ->zED R}(n:Nat)(p:Nat->Prop)(t:Nat->τ)(dn:τ)(hs:∀ k:Nat,k < n->OkT (F (k:Int)) fun o=>(p k∧o=.inr (t k))∨(¬ p k∧o=.inl ((k+1:Nat):Int)))
 (he:OkT (F (n:Int)) fun o=>o=.inr dn)
 (hT:∀ k,k < n->p k->(∀ j,j < k->¬ p j)->OkT (K (t k)) Q) (hF:(∀ k,k < n->¬ p k)->OkT (K dn) Q):OkT (zED.bind (qW F 0) K) Q:=by
 have key:∀ (m k:Nat),k+m=n->(∀ j,j < k->¬ p j)->OkT (zED.bind (qW F (k:Int)) K) Q:=by
  intro m
  induction m with
  | zero =>
    intro k hk hj;have:k=n:=by omega
    subst this;obtain⟨o,h1,rfl⟩:=he;rw[wD,h1];exact hF hj
  | succ m ih =>
    intro k hk hj;obtain⟨o,h1,⟨h2,rfl⟩ | ⟨h2,rfl⟩⟩:=hs k (by omega)
    ·rw[wD,h1];exact hT k (by omega) h2 hj
    ·rw[wD,h1]
     exact ih (k+1) (by omega) fun j hjk=>by
      by_cases e:j=k
      ·subst e;exact h2
      ·exact hj j (by omega)
 exact key n 0 (by omega) fun j h=>by omega
theorem vC {S:Type}{F:S->Option (S⊕τ)}{K:τ->zED R}(n:Nat)(E:Nat->σ->S)(I:Nat->σ->Prop)(s:σ){s0:S}(h0:s0=E 0 s)(hI:I 0 s)
 (hs:∀ k s,k < n->I k s->OkT (F (E k s)) fun o=>∃ s',o=.inl (E (k+1) s')∧I (k+1) s') (he:∀ s,I n s->OkT (F (E n s)) fun o=>∃ t,o=.inr t∧OkT (K t) Q):OkT (zED.bind (qW F s0) K) Q:=by
 have key:∀ (m k:Nat) (s:σ),k+m=n->I k s->OkT (zED.bind (qW F (E k s)) K) Q:=by
  intro m
  induction m with
  | zero =>
    intro k s hk hi;have:k=n:=by omega
    subst this;obtain⟨o,a1,t,rfl,a2⟩:=he s hi;rw[wD,a1];exact a2
  | succ m ih =>
    intro k s hk hi;obtain⟨o,a1,s',rfl,a2⟩:=hs k s (by omega) hi;rw[wD,a1];exact ih (k+1) s' (by omega) a2
 rw[h0];exact key n 0 s (by omega) hI
end
end Go.Sv
