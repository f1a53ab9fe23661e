/- All orders, one after another: none takes less than the best one, none ahead of it as little. Conditions: none. -/
import Derived.Test.YtpnecffgnjijjaaGreatDoorBU1
import Derived.Test.YtpnecffgnjijjaaGreatDoorSU7
set_option linter.all false
set_option maxRecDepth 10000
set_option maxHeartbeats 100000000
namespace Go.Proofs.YtpnecffgnjijjaaGreatDoor
open Go Go.Idl Go.Sv Go.Proofs
section
variable {ti fi:List Int}{se:List (List Int)}
theorem h13 {a b:List Int}(ha:a.length < 2 ^ 62)(hb:a.length=b.length):H13 (a,b)=some (decide (a=b)):=by
 refine OkT.eq ?_;show OkT (G13 a b) _;unfold G13;refine kD (by rw[hb];simp) ?_;refine uO a.length (fun k=>a.getD k 0≠b.getD k 0) (fun k=>.inr (.inl false)) (.inl (a.length:Int)) ?_ ?_ ?_ ?_
 ·intro k hk;have hk2:k < b.length:=hb ▸ hk;refine xV (qAG (by omega)) (zH k rfl hk (zB hk (zH k rfl hk2 (zB hk2 ?_))));rw[qKA hk,qKA hk2];refine yV (fun q=>qC (.inl ⟨bne_iff_ne.1 q,rfl⟩)) fun q=>qC (.inr ⟨fun h=>h (by simpa using q),?_⟩)
  rw[jC (show k < 2 ^ 62 by omega)]
 ·exact kD (qCY (by omega)) (qC rfl)
 ·intro k hk hp _;exact qC (decide_eq_false fun e=>hp (by rw[e])).symm
 ·intro hn;exact qC (decide_eq_true (qXY hb fun j hj=>Decidable.not_not.1 (hn j hj))).symm
theorem qF9:∀ {L:List (List Int)} {b:List Int},(L.foldl (uR ti fi se) (b,tm ti fi se b)=(b,tm ti fi se b)∧∀ p∈L,tm ti fi se b<=tm ti fi se p) ∨
 ∃ A l B,L=A++l::B∧L.foldl (uR ti fi se) (b,tm ti fi se b)=(l,tm ti fi se l)∧(∀ p∈A,tm ti fi se l < tm ti fi se p)∧tm ti fi se l < tm ti fi se b
 | [],b=>.inl ⟨rfl,fun p h=>absurd h List.not_mem_nil⟩
 | c::L,b=>by
   by_cases hc:tm ti fi se c < tm ti fi se b
   ·have e:(c::L).foldl (uR ti fi se) (b,tm ti fi se b)=L.foldl (uR ti fi se) (c,tm ti fi se c):=by
     show L.foldl _ (uR ti fi se (b,tm ti fi se b) c)=_;rw[show uR ti fi se (b,tm ti fi se b) c=(c,tm ti fi se c) from if_pos hc]
    rw[e]
    rcases qF9 (L:=L) (b:=c) with ⟨h1,h2⟩ | ⟨A,l,B,h1,h2,h3,h4⟩
    ·exact .inr ⟨[],c,L,rfl,h1,fun p h=>absurd h List.not_mem_nil,hc⟩
    ·refine .inr ⟨c::A,l,B,by rw[h1];rfl,h2,fun p h=>?_,Int.lt_trans h4 hc⟩;rcases zNF.1 h with rfl | h
     ·exact h4
     ·exact h3 p h
   ·have e:(c::L).foldl (uR ti fi se) (b,tm ti fi se b)=L.foldl (uR ti fi se) (b,tm ti fi se b):=by
     show L.foldl _ (uR ti fi se (b,tm ti fi se b) c)=_;rw[show uR ti fi se (b,tm ti fi se b) c=(b,tm ti fi se b) from if_neg hc]
    rw[e]
    rcases qF9 (L:=L) (b:=b) with ⟨h1,h2⟩ | ⟨A,l,B,h1,h2,h3,h4⟩
    ·refine .inl ⟨h1,fun p h=>?_⟩;rcases zNF.1 h with rfl | h
     ·omega
     ·exact h2 p h
    ·refine .inr ⟨c::A,l,B,by rw[h1];rfl,h2,fun p h=>?_,h4⟩;rcases zNF.1 h with rfl | h
     ·omega
     ·exact h3 p h
theorem q1O {n:Nat}(hn:1<=n):∃ A B,od n n []=A++(bq ti fi se n).1::B∧∀ p∈A,tm ti fi se (bq ti fi se n).1 < tm ti fi se p:=by
 have hmem:=qYF (n:=n) n [] (qG0 _);have hne:od n n []≠[]:=q5H (n:=n) n 0 (by omega);unfold bq;generalize od n n []=L at *
 have hnil:∀ l∈L,l≠[]:=fun l hl e=>by
  have:=(hmem l hl).1;rw[e] at this;simp at this;omega
 cases L with
 | nil=>exact absurd rfl hne
 | cons l0 L =>
   have e2:uP ti fi se ([],0) l0=(l0,tm ti fi se l0):=if_pos (.inl rfl)
   have e3:(l0::L).foldl (uP ti fi se) ([],0)=L.foldl (uR ti fi se) (l0,tm ti fi se l0):=by
    show L.foldl _ (uP ti fi se ([],0) l0)=_;rw[e2,qTF (st:=(l0,tm ti fi se l0)) (hnil l0 zM5) fun x hx=>hnil x (zM3 _ hx)]
   rw[e3]
   rcases qF9 (L:=L) (b:=l0) with ⟨h1,_⟩ | ⟨A,l,B,h1,h2,h3,h4⟩
   ·rw[h1];exact⟨[],L,rfl,fun p h=>absurd h List.not_mem_nil⟩
   ·rw[h2];refine⟨l0::A,B,by rw[h1];rfl,fun p h=>?_⟩;rcases zNF.1 h with rfl | h
    ·exact h4
    ·exact h3 p h
theorem zC5 {R:Type}{K:Bool->Bool->zE9 R}{Q:R->Prop}{p l:List Int}{bs bd:Int}{bf:Bool}(hs:Sb ti fi se)(hb:qDD ti fi se=0)(hl:p.length=ti.length)(hp:Pm p)(hll:l.length=ti.length)
 (h1:bs<=tm ti fi se p) (h2:bd<=tm ti fi se p) (h3:∀ r,Pm r->r.length=ti.length->bs<=tm ti fi se r) (h4:bf=true->p≠l->bs < tm ti fi se p) (hk:OkT (K true (bf&&!decide (p=l))) Q):OkT (HB (ti,fi,se) l bs bd p bf K) Q:=by
 have v:=qSJ hb;have hn:=v.n2;obtain⟨r,hr⟩:=q4Q v ((tm ti fi se p).toNat+1) p hp hl (zNV _);have hrl:r.length=ti.length:=by rw[q5K hr,hl]
 obtain⟨q1,q2,_⟩:=zAT hr hp;have q3:=h3 r q1 hrl;unfold HB;refine zO (h25 hs hb hl hp) (zO (h27 hs hb hl hp hr) (zO (h25 hs hb hrl q1) ?_));dsimp only;refine jU (fun t=>t=false) ?_ ?_
 ·refine xV rfl (xV ?_ (xV ?_ (xV ?_ (qC ⟨_,rfl,decide_eq_false (by omega)⟩))))
  ·rw[qCZ,decide_eq_false (by omega)];rfl
  ·rw[qCZ,decide_eq_false (by omega)];rfl
  ·rw[qCZ,decide_eq_false (by omega)];rfl
 ·rintro t rfl;refine kD rfl (jU (fun t=>t=(bf&&!decide (p=l))) (zO (h13 (by omega) (by omega)) (yV (fun q=>qC ⟨_,rfl,?_⟩) fun q=>qC ⟨_,rfl,?_⟩)) ?_)
  ·rw[q];simp
  ·rw[q];simp
  ·rintro t rfl;refine jU (fun t=>t=true) ?_ ?_
   ·cases hc:(bf&&!decide (p=l)) with
    | false=>exact kD rfl (qC ⟨_,rfl,rfl⟩)
    | true =>
      rw[zMY] at hc;exact xV rfl (qC ⟨_,rfl,decide_eq_true (h4 hc.1 (by simpa using hc.2))⟩)
   ·rintro t rfl;exact hk
theorem qUA {g:Nat->List (List Int)}{b:List Int}{i:Nat}:∀ {m:Nat},i+1<=m->∃ r,odF g b m=odF g b (i+1)++r
 | 0,h=>absurd h (Nat.not_succ_le_zero _)
 | m+1,h=>by
   by_cases e:i=m
   ·subst e;exact⟨[],by simp⟩
   ·obtain⟨r,hr⟩:=qUA (g:=g) (b:=b) (i:=i) (m:=m) (by omega)
    exact⟨r++(if (m:Int)∈b then [] else g m),by
     show odF g b m++_=_
     rw[hr,zNN]⟩
theorem qWH {α:Type}{A B pre post:List α}{l p:α}(h:A++l::B=pre++p::post)(h1:l ∉ pre)(h2:p≠l):p∈A:=by
 rcases List.append_eq_append_iff.1 h with ⟨c,e1,e2⟩ | ⟨c,e1,e2⟩
 ·cases c with
  | nil=>simp at e2;exact absurd e2.1.symm h2
  | cons x c =>
    injection e2 with e3 e4;subst e3;exact absurd (by rw[e1];simp) h1
 ·cases c with
  | nil=>simp at e2;exact absurd e2.1 h2
  | cons x c =>
    injection e2 with e3 e4;subst e3;rw[e1];simp
end
end Go.Proofs.YtpnecffgnjijjaaGreatDoor
