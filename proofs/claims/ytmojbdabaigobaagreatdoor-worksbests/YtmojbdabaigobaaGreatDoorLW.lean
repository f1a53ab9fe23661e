/- A contract that says less, in other words. Conditions: none. -/
import Derived.Test.YtmojbdabaigobaaGreatDoorSvB
set_option linter.all false
namespace Go.Sv
open Go.Idl
noncomputable section
variable [Gc]
variable {P:Program}{good:FuncId->Bool}{G:Nat->Bool}{T:yE}{IT:List (FuncId×zFI)}
theorem Lib.weak (L:Lib P good G T IT)(g:FuncId){az rs:List Ty}{F S:TyL az->Option (TyL rs)}(hs:slT g T=some ⟨az,rs,F⟩)(h:∀ x y,S x=some y->F x=some y):Lib P good G ((g,⟨az,rs,S⟩)::T) IT:=by
 obtain⟨nat,tab,s,ht,hit⟩:=L
 letI:Yl:=⟨0⟩
 refine⟨nat,q3M tab g (ofF (enL az) S (jD rs)),⟨s.s,fun g' a r hr=>?_⟩,?_,hit⟩
 ·have hr:cond (Nat.beq g' g) (ofF (enL az) S (jD rs) a) (tab g' a)=some r:=hr
  cases hb:Nat.beq g' g with
  | true =>
    rw[hb] at hr;obtain⟨x,y,rfl,h1,rfl⟩:=qX0 hr;obtain rfl:=zOH hb;refine s.t g' _ _ ?_;have:=ht g' _ hs x;exact this.trans (congrArg (Option.map (jD rs)) (h x y h1))
  | false =>
    rw[hb] at hr;exact s.t g' a r hr
 ·intro _ g' ent hg x;have hg:cond (Nat.beq g' g) (some (⟨az,rs,S⟩:Ent)) (slT g' T)=some ent:=hg;unfold q3M
  cases hb:Nat.beq g' g with
  | true =>
    rw[hb] at hg;cases hg;exact qN7 (a:=enL az) x
  | false =>
    rw[hb] at hg;exact ht g' ent hg x
end
end Go.Sv
