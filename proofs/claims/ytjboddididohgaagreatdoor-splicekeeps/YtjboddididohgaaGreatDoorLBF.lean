/- slices.Clone hands back a copy. Conditions: none. -/
import Derived.Test.YtjboddididohgaaGreatDoorLB0
set_option linter.all false
set_option maxRecDepth 10000
namespace Go.Proofs.YtjboddididohgaaGreatDoor
open Go Go.Idl Go.Sv Go.Proofs
noncomputable section
abbrev LZ : Ty := .list 3 (.int .i64)
def qHN (x : List Int) : Option (List Int) := (zAN.ite x.isEmpty
 (zAN.bind
   (qJ7 (zAN.ret [])
     (zAN.ite (x.length.beq 0) (zAN.ret [])
       (zAN.ite ((0 + x.length).ble 1048576) (zAN.ret ([] ++ x)) zAN.fail)))
   fun (x1 : List Int) => zAN.ret x1)
 (zAN.ite (x.length.beq 0) (zAN.ret []) (zAN.ite ((0 + x.length).ble 1048576) (zAN.ret ([] ++ x)) zAN.fail)) : zAN (List Int)).run
theorem LBc : Lib Tryz.prog good (y7 10) [(87, ⟨[LZ], [LZ], qHN⟩)] [] := by
 letI : Frs := zD4
 exact Lib.zIN LB0 87 [] ⟨[], [], [], []⟩ [LZ] [LZ] Tryz.f87 qHN (by kernel_rfl) Tryz.func87 (by kernel_rfl) (by kernel_rfl)
def ANc : Ans := [(87, (⟨[], [], [], []⟩, [LZ]))]
theorem qY9 : (fun (y : Yl) (T : jF) (R : Type) (K : SV -> SH -> zAN R) (x : Int) (xs : List Int) => @ciN _ zD4 y zFX Tryz.prog (y7 10) T [] ANc 1 R nm0 87 [.d LZ (x :: xs)] ⟨0, []⟩ K) = fun y T R K x xs =>
 zAN.ite (Nat.ble (0 + (x :: xs).length) 1048576) (K (.own 7 1 (0 + (x :: xs).length)) ⟨2, [(7, .list 3 true 1 1 (.int .i64) ([] ++ (x :: xs))), (5, .list 3 false 0 0 (.int .i64) [])]⟩) .fail := by kernel_rfl
theorem q3K : qHN [] = some [] := by
 show (zAN.bind (qJ7 (some []) (some [])) fun (x1 : List Int) => zAN.ret x1) = some [];rw [qP4]; rfl
instance frs8 : zBD Tryz.prog (y7 10) := by
 obtain ⟨nat, tab, s, ht, hit⟩ := LBc;refine q7D s fun g el hg => ?_
 have hg : cond (Nat.beq g 87) (some 3) none = some el := hg
 cases hb : Nat.beq g 87 with
 | false => rw [hb] at hg; cases hg
 | true =>
   rw [hb] at hg;have h1 := zKJ hb;subst h1;cases hg
   letI : Yl := ⟨0⟩
   refine ⟨by kernel_rfl, by kernel_rfl, by kernel_rfl, ?_, fun xs hx hn => ?_⟩
   ·have := ht 87 ⟨[LZ], [LZ], qHN⟩ rfl [];simp only [q3K] at this;exact this
   ·cases xs with
    | nil => exact absurd rfl hx
    | cons x xs =>
      have he := congrFun (congrFun (congrFun (congrFun (congrFun (congrFun qY9 ⟨0⟩) [(87, ⟨[LZ], [LZ], qHN⟩)]) (SV × SH)) fun v h => .ret (v, h)) x) xs
      have hc : qCP Tryz.prog (y7 10) nm0 87 (qB [.d LZ (x :: xs)]) (qE ([] : List (Nat × SO))) fun v p => ∃ v' h', v = v'.enc ∧ p = qE h'.l ∧ Post Tryz.prog ⟨0, []⟩ h' v' ∧ ((fun v h => .ret (v, h) : SV -> SH -> zAN (SV × SH)) v' h').run = some (.own 7 1 (0 + (x :: xs).length), ⟨2, [(7, .list 3 true 1 1 (.int .i64) ([] ++ (x :: xs))), (5, .list 3 false 0 0 (.int .i64) [])]⟩) := by
       letI : Frs := zD4
       refine qIB s ht hit ANc 1 (R := SV × SH) nm0 87 [.d LZ (x :: xs)] ⟨0, []⟩ _ _ qB7 (by simp [okL, SV.ok]) ?_;refine Eq.trans (congrArg zAN.run he) ?_;rw [show Nat.ble (0 + (x :: xs).length) 1048576 = true by rw [zLA]; exact hn];rfl
      rcases hc with ⟨e, _⟩ | ⟨he1, hc⟩
      ·have : qKZ Tryz.prog 87 = false := by kernel_rfl
       rw [this] at e; cases e
      ·refine .inr ⟨he1, fun Z H m zA1 a b c => (hc Z H m zA1 a b c).mono ?_⟩;rintro r ⟨Z', m', pv, ph', a1, a2, a3, a4, v', h', rfl, rfl, _, q⟩;cases q;refine ⟨Z', m', _, _, a1, a2, a3, a4, 7, ?_, ?_⟩
       ·rw [zLA]; simp [SV.enc]
       ·rfl
end
end Go.Proofs.YtjboddididohgaaGreatDoor
