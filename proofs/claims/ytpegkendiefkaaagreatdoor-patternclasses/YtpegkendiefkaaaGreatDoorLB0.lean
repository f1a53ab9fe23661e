/- The library of contracts to begin with: the law's fixed examples. Conditions: none. -/
import Derived.Test.YtpegkendiefkaaaGreatDoorSvB
import Derived.Test.YtpegkendiefkaaaGreatDoorAwake
set_option linter.all false
namespace Go.Proofs.YtpegkendiefkaaaGreatDoor
open Go.Idl Go.Sv
noncomputable section
instance : Gc := ⟨fun _ => none⟩
def k18 (args : List Value) (_ : IH) : Option Value := match args with
 | [] => some (.bool true)
 | _ => none
def zFQ : xI := addNat qSG 5 k18
theorem zBP : Setup Tryz.prog good zFQ (vD 3) := xW.zRU k18 fun args H v hk args' f w hR hG ha => by
 unfold k18 at hk;split at hk
 ·cases hk;rw [ha.zHV];exact q2S rfl Tryz.func5 (show Tryz.f5.body = some c18 from rfl) qNP hR hG
 ·cases hk
def zB4 : gY := fun g args => match args with
 | [] => cond (Nat.beq g 5) (some (fvv (.bool true))) none
 | _ => none
def TB0 : zU := [(5, ⟨[], [Ty.bool], fun _ => some true⟩)]
theorem LB0 : Lib Tryz.prog good (vD 3) TB0 [] := by
 refine ⟨zFQ, zB4, ⟨zBP, ?_⟩, ?_, fun f ent h => by cases h⟩
 ·intro g args r h;unfold zB4 at h;split at h
  ·cases hg : Nat.beq g 5 with
   | false => rw [hg] at h; cases h
   | true =>
     rw [hg] at h;have : g = 5 := zTZ hg;subst this;cases h;refine ⟨by kernel_rfl, rfl, ofK k18, rfl, ?_⟩;intro Z H args hv hz hb hgl Q hQ;rw [hv.zHV];exact hQ (.bool true) H Z (.refl H) (fun _ h => h) hz (fun _ h _ => h) (.f (.v rfl rfl))
  ·cases h
 ·intro _ g ent h x;have h : cond (Nat.beq g 5) (some (⟨[], [Ty.bool], fun _ => some true⟩ : Ent)) none = some ent := h
  cases hg : Nat.beq g 5 with
  | false => rw [hg] at h; cases h
  | true =>
    rw [hg] at h;cases h;show cond (Nat.beq g 5) (some (fvv (.bool true))) none = _;rw [hg];rfl
end
end Go.Proofs.YtpegkendiefkaaaGreatDoor
