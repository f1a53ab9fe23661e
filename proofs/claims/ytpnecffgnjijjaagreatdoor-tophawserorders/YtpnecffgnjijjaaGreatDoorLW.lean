/- A contract that says less, in other words. Conditions: none. -/
import Derived.Test.YtpnecffgnjijjaaGreatDoorSvB
set_option linter.all false
namespace Go.Sv
open Go.Idl
noncomputable section
variable [Gc]
variable {P:Program}{good:FuncId->Bool}{G:Nat->Bool}{T:yY}{IT:List (FuncId×zFV)}
theorem Lib.weak (L:Lib P good G T IT)(g:FuncId){az rs:List Ty}{F S:TyL az->Option (TyL rs)}(hs:slT g T=some ⟨az,rs,F⟩)(h:∀ x y,S x=some y->F x=some y):Lib P good G ((g,⟨az,rs,S⟩)::T) IT:=by
 obtain⟨nat,tab,s,ht,hit⟩:=L
 letI:Yl:=⟨0⟩
 refine⟨nat,q2Z tab g (ofF (enL az) S (kY rs)),⟨s.s,fun g' a r hr=>?_⟩,?_,hit⟩
 ·have hr:cond (Nat.beq g' g) (ofF (enL az) S (kY rs) a) (tab g' a)=some r:=hr
  cases hb:Nat.beq g' g with
  | true =>
    rw[hb] at hr;obtain⟨x,y,rfl,h1,rfl⟩:=qTL hr;obtain rfl:=zMZ hb;refine s.t g' _ _ ?_;have:=ht g' _ hs x;exact this.trans (congrArg (Option.map (kY rs)) (h x y h1))
  | false =>
    rw[hb] at hr;exact s.t g' a r hr
 ·intro _ g' ent hg x;have hg:cond (Nat.beq g' g) (some (⟨az,rs,S⟩:Ent)) (slT g' T)=some ent:=hg;unfold q2Z
  cases hb:Nat.beq g' g with
  | true =>
    rw[hb] at hg;cases hg;exact qP1 (a:=enL az) x
  | false =>
    rw[hb] at hg;exact ht g' ent hg x
end
end Go.Sv
