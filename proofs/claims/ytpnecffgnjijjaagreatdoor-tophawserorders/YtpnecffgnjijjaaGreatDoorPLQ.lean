/- Rules for what told forms come to. Conditions: none. -/
import Derived.Test.YtpnecffgnjijjaaGreatDoorVA
set_option linter.all false
namespace Go.Sv
open Go.Idl
variable [Gc]
section
variable {R α σ ρ τ:Type}{Q:R->Prop}
def OkT (t:Option R)(Q:R->Prop):Prop:=∃ r,t=some r∧Q r
theorem OkT.eq {t:Option R}{r:R}(h:OkT t (fun x=>x=r)):t=some r:=by
 obtain⟨x,h1,rfl⟩:=h;exact h1
theorem qC {r:R}(h:Q r):OkT (zE9.ret r) Q:=⟨r,rfl,h⟩
theorem yV {b:Bool}{x y:zE9 R}(h1:b=true->OkT x Q)(h2:b=false->OkT y Q):OkT (zE9.ite b x y) Q:=by
 cases b with
 | true=>exact h1 rfl
 | false=>exact h2 rfl
theorem xV {b:Bool}{x y:zE9 R}(hb:b=true)(h1:OkT x Q):OkT (zE9.ite b x y) Q:=by subst hb;exact h1
theorem kD {b:Bool}{x y:zE9 R}(hb:b=false)(h1:OkT y Q):OkT (zE9.ite b x y) Q:=by subst hb;exact h1
theorem zO {o:Option α}{a:α}{k:α->zE9 R}(h:o=some a)(hk:OkT (k a) Q):OkT (zE9.bind o k) Q:=by subst h;exact hk
theorem zH {n:Nat}{x:Int}{k:Nat->zE9 R}(i:Nat)(hx:x=(i:Int))(hi:i < n)(h:OkT (k i) Q):OkT (zE9.bind (idx n x) k) Q:=by
 subst hx;rw[qYJ hi];exact h
theorem zB {l:List α}{i:Nat}{k:α->zE9 R}(hi:i < l.length)(h:OkT (k l[i]) Q):OkT (zE9.bind l[i]? k) Q:=by
 rw[zM2 hi];exact h
theorem qXW {F:σ->Option (σ⊕ρ)}{K:ρ->zE9 R}(I:σ->Prop)(m:σ->Nat){s:σ}(h0:I s)
 (hs:∀ s,I s->OkT (F s) fun o=>match o with
   | .inl s'=>I s'∧m s' < m s
   | .inr t=>OkT (K t) Q):OkT (zE9.bind (zG F s) K) Q:=by
 have key:∀ (n:Nat) (s:σ),m s < n->I s->OkT (zE9.bind (zG F s) K) Q:=by
  intro n
  induction n with
  | zero=>intro s h;omega
  | succ n ih =>
    intro s hn hI;obtain⟨o,h1,h2⟩:=hs s hI;rw[wC,h1]
    cases o with
    | inl s'=>exact ih s' (by have:=h2.2;omega) h2.1
    | inr t=>exact h2
 exact key (m s+1) s (by omega) h0
theorem uO {F:Int->Option (Int⊕τ)}{K:τ->zE9 R}(n:Nat)(p:Nat->Prop)(t:Nat->τ)(dn:τ)(hs:∀ k:Nat,k < n->OkT (F (k:Int)) fun o=>(p k∧o=.inr (t k))∨(¬ p k∧o=.inl ((k+1:Nat):Int)))
 (he:OkT (F (n:Int)) fun o=>o=.inr dn)
 (hT:∀ k,k < n->p k->(∀ j,j < k->¬ p j)->OkT (K (t k)) Q) (hF:(∀ k,k < n->¬ p k)->OkT (K dn) Q):OkT (zE9.bind (zG F 0) K) Q:=by
 have key:∀ (m k:Nat),k+m=n->(∀ j,j < k->¬ p j)->OkT (zE9.bind (zG F (k:Int)) K) Q:=by
  intro m
  induction m with
  | zero =>
    intro k hk hj;have:k=n:=by omega
    subst this;obtain⟨o,h1,rfl⟩:=he;rw[wC,h1];exact hF hj
  | succ m ih =>
    intro k hk hj;obtain⟨o,h1,⟨h2,rfl⟩ | ⟨h2,rfl⟩⟩:=hs k (by omega)
    ·rw[wC,h1];exact hT k (by omega) h2 hj
    ·rw[wC,h1]
     exact ih (k+1) (by omega) fun j hjk=>by
      by_cases e:j=k
      ·subst e;exact h2
      ·exact hj j (by omega)
 exact key n 0 (by omega) fun j h=>by omega
theorem aM {S:Type}{F:S->Option (S⊕τ)}{K:τ->zE9 R}(n:Nat)(E:Nat->σ->S)(I:Nat->σ->Prop)(s:σ){s0:S}(h0:s0=E 0 s)(hI:I 0 s)
 (hs:∀ k s,k < n->I k s->OkT (F (E k s)) fun o=>∃ s',o=.inl (E (k+1) s')∧I (k+1) s') (he:∀ s,I n s->OkT (F (E n s)) fun o=>∃ t,o=.inr t∧OkT (K t) Q):OkT (zE9.bind (zG F s0) K) Q:=by
 have key:∀ (m k:Nat) (s:σ),k+m=n->I k s->OkT (zE9.bind (zG F (E k s)) K) Q:=by
  intro m
  induction m with
  | zero =>
    intro k s hk hi;have:k=n:=by omega
    subst this;obtain⟨o,a1,t,rfl,a2⟩:=he s hi;rw[wC,a1];exact a2
  | succ m ih =>
    intro k s hk hi;obtain⟨o,a1,s',rfl,a2⟩:=hs k s (by omega) hi;rw[wC,a1];exact ih (k+1) s' (by omega) a2
 rw[h0];exact key n 0 s (by omega) hI
end
end Go.Sv
