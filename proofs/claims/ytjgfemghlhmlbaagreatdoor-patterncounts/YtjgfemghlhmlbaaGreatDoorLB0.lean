/- The library of contracts to begin with: the law's fixed examples. Conditions: none. -/
import Derived.Test.YtjgfemghlhmlbaaGreatDoorSvB
import Derived.Test.YtjgfemghlhmlbaaGreatDoorAwake
set_option linter.all false
namespace Go.Proofs.YtjgfemghlhmlbaaGreatDoor
open Go.Idl Go.Sv
noncomputable section
instance : Gc := ⟨fun _ => none⟩
def k18 (args : List Value) (_ : IH) : Option Value := match args with
 | [] => some (.bool true)
 | _ => none
def zGN : xG := addNat qSZ 8 k18
theorem zAQ : Setup Tryz.prog good zGN (wP 3) := xU.zPG k18 fun args H v hk args' f w hR hG ha => by
 unfold k18 at hk;split at hk
 ·cases hk;rw [ha.zIG];exact q2J rfl Tryz.func8 (show Tryz.f8.body = some c18 from rfl) qOJ hR hG
 ·cases hk
def zBT : fM := fun g args => match args with
 | [] => cond (Nat.beq g 8) (some (fvv (.bool true))) none
 | _ => none
def TB0 : xW := [(8, ⟨[], [Ty.bool], fun _ => some true⟩)]
theorem LB0 : Lib Tryz.prog good (wP 3) TB0 [] := by
 refine ⟨zGN, zBT, ⟨zAQ, ?_⟩, ?_, fun f ent h => by cases h⟩
 ·intro g args r h;unfold zBT at h;split at h
  ·cases hg : Nat.beq g 8 with
   | false => rw [hg] at h; cases h
   | true =>
     rw [hg] at h;have : g = 8 := zQN hg;subst this;cases h;refine ⟨by kernel_rfl, rfl, ofK k18, rfl, ?_⟩;intro Z H args hv hz hb hgl Q hQ;rw [hv.zIG];exact hQ (.bool true) H Z (.refl H) (fun _ h => h) hz (fun _ h _ => h) (.f (.v rfl rfl))
  ·cases h
 ·intro _ g ent h x;have h : cond (Nat.beq g 8) (some (⟨[], [Ty.bool], fun _ => some true⟩ : Ent)) none = some ent := h
  cases hg : Nat.beq g 8 with
  | false => rw [hg] at h; cases h
  | true =>
    rw [hg] at h;cases h;show cond (Nat.beq g 8) (some (fvv (.bool true))) none = _;rw [hg];rfl
end
end Go.Proofs.YtjgfemghlhmlbaaGreatDoor
