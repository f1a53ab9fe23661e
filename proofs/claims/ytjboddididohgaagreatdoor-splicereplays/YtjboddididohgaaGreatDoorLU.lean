/- A law's call where more is known of the arguments: their lists' lengths. Conditions: none. -/
import Derived.Test.YtjboddididohgaaGreatDoorBG1
set_option linter.all false
namespace Go.Sv
open Go.Idl
open Go.RowKit
variable [Gc]
variable {P : Program} {good : FuncId -> Bool} {G : Nat -> Bool} {k : Nat} {T : kS} {IT : List (FuncId × zAV)}
theorem Lib.zH9 {gl : List (Nat × Obj)} (L : Lib P good (yY k) T IT) (hgc : ∀ g o, Gc.gc g = some o -> g < k ∧ (q4P gl k).get g = some o) {g : FuncId} {ats : List Ty} {F : TyL ats -> Option Bool} (hs : slT g T = some ⟨ats, [Ty.bool], F⟩) {Q : TyL ats -> Prop} (hF : ∀ x, Q x -> F x = some true) {Hh : Type} {enc : TypeId × Value -> Hh} {W : World} (hR0 : Rel P (dZ k) (q4P gl k) W) (h0 : 0 < W.heap.size)
 {n : Nat} {r : Reach} {base : Nat} {is : List TypeId} {vs : Array Value} {ds : List (DataW Hh)} {ps : List MemPlace} (hc : qY6 P n is ats = true) (htr : DataW.TrodAll enc P W 0 (fun _ => true) true is vs.toList ds ps) (hok : ∀ (j : Nat) i v, is[j]? = some i -> vs[j]? = some v -> Value.okWide P W r base i v)
 (hQ : ∀ (x : TyL ats) (f : Inj) (H : IH) (us : List Value), qC P f us vs.toList -> VRL P (ZA H) H (fun _ => none) (pvL ats x) us -> Q x) :
 Calls P g vs W fun e W' => e = .returned (.bool true) ∧ Below W.heap.size W W' := by
 have zIA : pR (dZ k) := fun b e hb => by rw [(yP hb).2]
 obtain ⟨x, f2, H2, us, b1, b2, b3, b4, b5, b6, b7⟩ := qJT h0 is ats vs.toList ds ps hc htr (fun j i v hi hv => hok j i v hi (by simpa using hv)) hR0 zIA;have hG : gU (yY k) f2 := (qIL k).mono b2;have hb : H2.base <= H2.size := by rw [b4.base]; exact zL5 _
 obtain ⟨nat, tab, s, ht, _⟩ := L
 letI : Yl := ⟨0⟩
 have h : tab g (pvL ats x) = Option.map (j3 [Ty.bool]) (F x) := ht g _ hs x;rw [hF x (hQ x f2 H2 us b5 b6)] at h;obtain ⟨_, _, kk, hkk, zFH⟩ := s.t g _ _ h;have zFL : CallsIn Fence.wide 0 P g vs W _ := s.s.spec g kk hkk us vs.toList H2 f2 W _ b1 hG b5 (zFH (ZA H2) H2 us b6 (fun b h => h) hb (fun g o hg => ⟨zKB (hgc g o hg).1 b4.size, (b4.get g (hgc g o hg).1).trans (hgc g o hg).2⟩) (fun r => Old H2 r.2 ∧ ∃ Z' : Nat -> Prop, VR P Z' r.2 (fun _ => none) (j3 [Ty.bool] true) r.1) fun v H' Z' a1 a2 a3 a4 a5 => ⟨a1, Z', a5⟩);refine (callsIn_wide.1 zFL).mono ?_;rintro e w' ⟨v', r, f2', rfl, ⟨hold, Z', hr⟩, k1, k2, k3⟩;have hrb : r.1 = .bool true := yM hr rfl;rw [hrb] at k3;refine ⟨by rw [k3.zCH], k2.out.1, k2.out.2.2, k2.out.2.1, k2.size, fun x hx => (k2.keep x hx ?_).2⟩;rintro ⟨b, e, hb, _, zGW⟩;rw [b3 b e hb] at zGW;cases zGW
theorem zD1 {el : TypeId} {u : Ty} {Z : Nat -> Prop} {H : IH} {M : Nat -> Option (Nat × PO)} {xs : (Ty.list el u).sem} {v v' : Value} {f : Inj} (h : VR P Z H M ((Ty.list el u).pv xs) v) (hr : zAA P f v v') : ∃ a n c, v' = .slice a n c ∧ List.length xs = n := by
 have e : (Ty.list el u).pv xs = .f (.l el (List.length xs) (List.flatMap u.cells xs)) := rfl;rw [e] at h;generalize List.length xs = m at h ⊢;generalize List.flatMap u.cells xs = cs at h
 cases h with
 | f h =>
   cases h with
   | nil h0 hs =>
     cases hr with
     | base _ h => exact ⟨_, _, _, rfl, rfl⟩
     | sl h => exact ⟨_, _, _, rfl, rfl⟩
     | room h _ _ => exact ⟨_, _, _, rfl, rfl⟩
     | zAX h _ _ => exact ⟨_, _, _, rfl, rfl⟩
     | gh h _ => exact ⟨_, _, _, rfl, rfl⟩
   | l hz hb hn hs hl hc =>
     cases hr with
     | base _ h => exact ⟨_, _, _, rfl, rfl⟩
     | sl h => exact ⟨_, _, _, rfl, rfl⟩
     | room h _ _ => exact ⟨_, _, _, rfl, rfl⟩
     | zAX h _ _ => exact ⟨_, _, _, rfl, rfl⟩
     | gh h _ => exact ⟨_, _, _, rfl, rfl⟩
end Go.Sv
