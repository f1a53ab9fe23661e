/- slices.Clone hands back a copy. Conditions: none. -/
import Derived.Test.YtjboddididohgaaGreatDoorLB0
set_option linter.all false
set_option maxRecDepth 10000
namespace Go.Proofs.YtjboddididohgaaGreatDoor
open Go Go.Idl Go.Sv Go.Proofs
noncomputable section
abbrev LZ : Ty := .list 3 (.int .i64)
def qIK (x : List Int) : Option (List Int) := (q97.ite x.isEmpty
 (q97.bind
   (qIQ (q97.ret [])
     (q97.ite (x.length.beq 0) (q97.ret [])
       (q97.ite ((0 + x.length).ble 1048576) (q97.ret ([] ++ x)) q97.fail)))
   fun (x1 : List Int) => q97.ret x1)
 (q97.ite (x.length.beq 0) (q97.ret []) (q97.ite ((0 + x.length).ble 1048576) (q97.ret ([] ++ x)) q97.fail)) : q97 (List Int)).run
theorem LBc : Lib Tryz.prog good (yY 10) [(87, ⟨[LZ], [LZ], qIK⟩)] [] := by
 letI : Frs := zDP
 exact Lib.zH5 LB0 87 [] ⟨[], [], [], []⟩ [LZ] [LZ] Tryz.f87 qIK (by kernel_rfl) Tryz.func87 (by kernel_rfl) (by kernel_rfl)
def ANc : Ans := [(87, (⟨[], [], [], []⟩, [LZ]))]
theorem qYF : (fun (y : Yl) (T : jE) (R : Type) (K : SV -> SH -> q97 R) (x : Int) (xs : List Int) => @ciN _ zDP y zFH Tryz.prog (yY 10) T [] ANc 1 R nm0 87 [.d LZ (x :: xs)] ⟨0, []⟩ K) = fun y T R K x xs =>
 q97.ite (Nat.ble (0 + (x :: xs).length) 1048576) (K (.own 7 1 (0 + (x :: xs).length)) ⟨2, [(7, .list 3 true 1 1 (.int .i64) ([] ++ (x :: xs))), (5, .list 3 false 0 0 (.int .i64) [])]⟩) .fail := by kernel_rfl
theorem q4D : qIK [] = some [] := by
 show (q97.bind (qIQ (some []) (some [])) fun (x1 : List Int) => q97.ret x1) = some [];rw [qP9]; rfl
instance frs8 : zAX Tryz.prog (yY 10) := by
 obtain ⟨nat, tab, s, ht, hit⟩ := LBc;refine q56 s fun g el hg => ?_
 have hg : cond (Nat.beq g 87) (some 3) none = some el := hg
 cases hb : Nat.beq g 87 with
 | false => rw [hb] at hg; cases hg
 | true =>
   rw [hb] at hg;have h1 := zJ2 hb;subst h1;cases hg
   letI : Yl := ⟨0⟩
   refine ⟨by kernel_rfl, by kernel_rfl, by kernel_rfl, ?_, fun xs hx hn => ?_⟩
   ·have := ht 87 ⟨[LZ], [LZ], qIK⟩ rfl [];simp only [q4D] at this;exact this
   ·cases xs with
    | nil => exact absurd rfl hx
    | cons x xs =>
      have he := congrFun (congrFun (congrFun (congrFun (congrFun (congrFun qYF ⟨0⟩) [(87, ⟨[LZ], [LZ], qIK⟩)]) (SV × SH)) fun v h => .ret (v, h)) x) xs
      have hc : qCK Tryz.prog (yY 10) nm0 87 (qB [.d LZ (x :: xs)]) (qD ([] : List (Nat × SO))) fun v p => ∃ v' h', v = v'.enc ∧ p = qD h'.l ∧ Post Tryz.prog ⟨0, []⟩ h' v' ∧ ((fun v h => .ret (v, h) : SV -> SH -> q97 (SV × SH)) v' h').run = some (.own 7 1 (0 + (x :: xs).length), ⟨2, [(7, .list 3 true 1 1 (.int .i64) ([] ++ (x :: xs))), (5, .list 3 false 0 0 (.int .i64) [])]⟩) := by
       letI : Frs := zDP
       refine qJJ s ht hit ANc 1 (R := SV × SH) nm0 87 [.d LZ (x :: xs)] ⟨0, []⟩ _ _ qA8 (by simp [okL, SV.ok]) ?_;refine Eq.trans (congrArg q97.run he) ?_;rw [show Nat.ble (0 + (x :: xs).length) 1048576 = true by rw [zKP]; exact hn];rfl
      rcases hc with ⟨e, _⟩ | ⟨he1, hc⟩
      ·have : qMF Tryz.prog 87 = false := by kernel_rfl
       rw [this] at e; cases e
      ·refine .inr ⟨he1, fun Z H m zAL a b c => (hc Z H m zAL a b c).mono ?_⟩;rintro r ⟨Z', m', pv, ph', a1, a2, a3, a4, v', h', rfl, rfl, _, q⟩;cases q;refine ⟨Z', m', _, _, a1, a2, a3, a4, 7, ?_, ?_⟩
       ·rw [zKP]; simp [SV.enc]
       ·rfl
end
end Go.Proofs.YtjboddididohgaaGreatDoor
