/- slices.Clone hands back a copy. Conditions: none. -/
import Derived.Test.YtjboddididohgaaGreatDoorLB0
set_option linter.all false
set_option maxRecDepth 10000
namespace Go.Proofs.YtjboddididohgaaGreatDoor
open Go Go.Idl Go.Sv Go.Proofs
noncomputable section
abbrev LZ : Ty := .list 3 (.int .i64)
def qJY (x : List Int) : Option (List Int) := (q98.ite x.isEmpty
 (q98.bind
   (qII (q98.ret [])
     (q98.ite (x.length.beq 0) (q98.ret [])
       (q98.ite ((0 + x.length).ble 1048576) (q98.ret ([] ++ x)) q98.fail)))
   fun (x1 : List Int) => q98.ret x1)
 (q98.ite (x.length.beq 0) (q98.ret []) (q98.ite ((0 + x.length).ble 1048576) (q98.ret ([] ++ x)) q98.fail)) : q98 (List Int)).run
theorem LBc : Lib Tryz.prog good (yY 10) [(87, ⟨[LZ], [LZ], qJY⟩)] [] := by
 letI : Frs := zDQ
 exact Lib.zH8 LB0 87 [] ⟨[], [], [], []⟩ [LZ] [LZ] Tryz.f87 qJY (by kernel_rfl) Tryz.func87 (by kernel_rfl) (by kernel_rfl)
def ANc : Ans := [(87, (⟨[], [], [], []⟩, [LZ]))]
theorem qZG : (fun (y : Yl) (T : kS) (R : Type) (K : SV -> SH -> q98 R) (x : Int) (xs : List Int) => @ciN _ zDQ y zFK Tryz.prog (yY 10) T [] ANc 1 R nm0 87 [.d LZ (x :: xs)] ⟨0, []⟩ K) = fun y T R K x xs =>
 q98.ite (Nat.ble (0 + (x :: xs).length) 1048576) (K (.own 7 1 (0 + (x :: xs).length)) ⟨2, [(7, .list 3 true 1 1 (.int .i64) ([] ++ (x :: xs))), (5, .list 3 false 0 0 (.int .i64) [])]⟩) .fail := by kernel_rfl
theorem q38 : qJY [] = some [] := by
 show (q98.bind (qII (some []) (some [])) fun (x1 : List Int) => q98.ret x1) = some [];rw [qPJ]; rfl
instance frs8 : zAZ Tryz.prog (yY 10) := by
 obtain ⟨nat, tab, s, ht, hit⟩ := LBc;refine q5P s fun g el hg => ?_
 have hg : cond (Nat.beq g 87) (some 3) none = some el := hg
 cases hb : Nat.beq g 87 with
 | false => rw [hb] at hg; cases hg
 | true =>
   rw [hb] at hg;have h1 := zJ6 hb;subst h1;cases hg
   letI : Yl := ⟨0⟩
   refine ⟨by kernel_rfl, by kernel_rfl, by kernel_rfl, ?_, fun xs hx hn => ?_⟩
   ·have := ht 87 ⟨[LZ], [LZ], qJY⟩ rfl [];simp only [q38] at this;exact this
   ·cases xs with
    | nil => exact absurd rfl hx
    | cons x xs =>
      have he := congrFun (congrFun (congrFun (congrFun (congrFun (congrFun qZG ⟨0⟩) [(87, ⟨[LZ], [LZ], qJY⟩)]) (SV × SH)) fun v h => .ret (v, h)) x) xs
      have hc : qCG Tryz.prog (yY 10) nm0 87 (qB [.d LZ (x :: xs)]) (qD ([] : List (Nat × SO))) fun v p => ∃ v' h', v = v'.enc ∧ p = qD h'.l ∧ Post Tryz.prog ⟨0, []⟩ h' v' ∧ ((fun v h => .ret (v, h) : SV -> SH -> q98 (SV × SH)) v' h').run = some (.own 7 1 (0 + (x :: xs).length), ⟨2, [(7, .list 3 true 1 1 (.int .i64) ([] ++ (x :: xs))), (5, .list 3 false 0 0 (.int .i64) [])]⟩) := by
       letI : Frs := zDQ
       refine qJN s ht hit ANc 1 (R := SV × SH) nm0 87 [.d LZ (x :: xs)] ⟨0, []⟩ _ _ tN (by simp [okL, SV.ok]) ?_;refine Eq.trans (congrArg q98.run he) ?_;rw [show Nat.ble (0 + (x :: xs).length) 1048576 = true by rw [zKT]; exact hn];rfl
      rcases hc with ⟨e, _⟩ | ⟨he1, hc⟩
      ·have : qMI Tryz.prog 87 = false := by kernel_rfl
       rw [this] at e; cases e
      ·refine .inr ⟨he1, fun Z H m zAM a b c => (hc Z H m zAM a b c).mono ?_⟩;rintro r ⟨Z', m', pv, ph', a1, a2, a3, a4, v', h', rfl, rfl, _, q⟩;cases q;refine ⟨Z', m', _, _, a1, a2, a3, a4, 7, ?_, ?_⟩
       ·rw [zKT]; simp [SV.enc]
       ·rfl
end
end Go.Proofs.YtjboddididohgaaGreatDoor
