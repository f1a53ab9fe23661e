/- The library of contracts to begin with: the law's fixed examples. Conditions: none. -/
import Derived.Test.YtpdlblofcdcikaaGreatDoorSvB
import Derived.Test.YtpdlblofcdcikaaGreatDoorAwake
set_option linter.all false
namespace Go.Proofs.YtpdlblofcdcikaaGreatDoor
open Go.Idl Go.Sv
noncomputable section
instance : Gc := ⟨fun _ => none⟩
def k18 (args : List Value) (_ : IH) : Option Value := match args with
 | [] => some (.bool true)
 | _ => none
def q1H : yU := addNat jD 18 k18
theorem q5U : Setup Tryz.prog good q1H (zL 3) := yP.addC k18 fun args H v hk args' f w hR hG ha => by
 unfold k18 at hk;split at hk
 ·cases hk;rw [ha.nil_left];exact qYE rfl Tryz.func18 (show Tryz.f18.body = some c18 from rfl) qLR hR hG
 ·cases hk
def q4P : aV := fun g args => match args with
 | [] => cond (Nat.beq g 18) (some (fvv (.bool true))) none
 | _ => none
def TB0 : kT := [(18, ⟨[], [Ty.bool], fun _ => some true⟩)]
theorem LB0 : Lib Tryz.prog good (zL 3) TB0 [] := by
 refine ⟨q1H, q4P, ⟨q5U, ?_⟩, ?_, fun f ent h => by cases h⟩
 ·intro g args r h;unfold q4P at h;split at h
  ·cases hg : Nat.beq g 18 with
   | false => rw [hg] at h; cases h
   | true =>
     rw [hg] at h;have : g = 18 := Nat.eq_of_beq_eq_true hg;subst this;cases h;refine ⟨by kernel_rfl, rfl, ofK k18, rfl, ?_⟩;intro Z H args hv hz hb hgl Q hQ;rw [hv.nil_left];exact hQ (.bool true) H Z (.refl H) (fun _ h => h) hz (fun _ h _ => h) (.f (.v rfl rfl))
  ·cases h
 ·intro _ g ent h x;have h : cond (Nat.beq g 18) (some (⟨[], [Ty.bool], fun _ => some true⟩ : Ent)) none = some ent := h
  cases hg : Nat.beq g 18 with
  | false => rw [hg] at h; cases h
  | true =>
    rw [hg] at h;cases h;show cond (Nat.beq g 18) (some (fvv (.bool true))) none = _;rw [hg];rfl
end
end Go.Proofs.YtpdlblofcdcikaaGreatDoor
