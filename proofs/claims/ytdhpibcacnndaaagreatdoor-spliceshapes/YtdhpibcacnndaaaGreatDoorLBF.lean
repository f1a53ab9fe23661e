/- slices.Clone hands back a copy. Conditions: none. -/
import Derived.Test.YtdhpibcacnndaaaGreatDoorLB0
set_option linter.all false
set_option maxRecDepth 10000
namespace Go.Proofs.YtdhpibcacnndaaaGreatDoor
open Go Go.Idl Go.Sv Go.Proofs
noncomputable section
abbrev LZ : Ty := .list 3 (.int .i64)
def qIW (x : List Int) : Option (List Int) := (q9D.ite x.isEmpty
 (q9D.bind
   (qIG (q9D.ret [])
     (q9D.ite (x.length.beq 0) (q9D.ret [])
       (q9D.ite ((0 + x.length).ble 1048576) (q9D.ret ([] ++ x)) q9D.fail)))
   fun (x1 : List Int) => q9D.ret x1)
 (q9D.ite (x.length.beq 0) (q9D.ret []) (q9D.ite ((0 + x.length).ble 1048576) (q9D.ret ([] ++ x)) q9D.fail)) : q9D (List Int)).run
theorem LBc : Lib Tryz.prog good (yS 10) [(198, ⟨[LZ], [LZ], qIW⟩)] [] := by
 letI : Frs := zCU
 exact Lib.zG6 LB0 198 [] ⟨[], [], [], []⟩ [LZ] [LZ] Tryz.f198 qIW (by kernel_rfl) Tryz.func198 (by kernel_rfl) (by kernel_rfl)
def ANc : Ans := [(198, (⟨[], [], [], []⟩, [LZ]))]
theorem qXI : (fun (y : Yl) (T : jE) (R : Type) (K : SV -> SH -> q9D R) (x : Int) (xs : List Int) => @ciN _ zCU y zEK Tryz.prog (yS 10) T [] ANc 1 R nm0 198 [.d LZ (x :: xs)] ⟨0, []⟩ K) = fun y T R K x xs =>
 q9D.ite (Nat.ble (0 + (x :: xs).length) 1048576) (K (.own 7 1 (0 + (x :: xs).length)) ⟨2, [(7, .list 3 true 1 1 (.int .i64) ([] ++ (x :: xs))), (5, .list 3 false 0 0 (.int .i64) [])]⟩) .fail := by kernel_rfl
theorem q2Z : qIW [] = some [] := by
 show (q9D.bind (qIG (some []) (some [])) fun (x1 : List Int) => q9D.ret x1) = some [];rw [qQE]; rfl
instance frs8 : q93 Tryz.prog (yS 10) := by
 obtain ⟨nat, tab, s, ht, hit⟩ := LBc;refine q5N s fun g el hg => ?_
 have hg : cond (Nat.beq g 198) (some 3) none = some el := hg
 cases hb : Nat.beq g 198 with
 | false => rw [hb] at hg; cases hg
 | true =>
   rw [hb] at hg;have h1 := zI6 hb;subst h1;cases hg
   letI : Yl := ⟨0⟩
   refine ⟨by kernel_rfl, by kernel_rfl, by kernel_rfl, ?_, fun xs hx hn => ?_⟩
   ·have := ht 198 ⟨[LZ], [LZ], qIW⟩ rfl [];simp only [q2Z] at this;exact this
   ·cases xs with
    | nil => exact absurd rfl hx
    | cons x xs =>
      have he := congrFun (congrFun (congrFun (congrFun (congrFun (congrFun qXI ⟨0⟩) [(198, ⟨[LZ], [LZ], qIW⟩)]) (SV × SH)) fun v h => .ret (v, h)) x) xs
      have hc : qB4 Tryz.prog (yS 10) nm0 198 (qB [.d LZ (x :: xs)]) (qD ([] : List (Nat × SO))) fun v p => ∃ v' h', v = v'.enc ∧ p = qD h'.l ∧ Post Tryz.prog ⟨0, []⟩ h' v' ∧ ((fun v h => .ret (v, h) : SV -> SH -> q9D (SV × SH)) v' h').run = some (.own 7 1 (0 + (x :: xs).length), ⟨2, [(7, .list 3 true 1 1 (.int .i64) ([] ++ (x :: xs))), (5, .list 3 false 0 0 (.int .i64) [])]⟩) := by
       letI : Frs := zCU
       refine qH1 s ht hit ANc 1 (R := SV × SH) nm0 198 [.d LZ (x :: xs)] ⟨0, []⟩ _ _ qAB (by simp [okL, SV.ok]) ?_;refine Eq.trans (congrArg q9D.run he) ?_;rw [show Nat.ble (0 + (x :: xs).length) 1048576 = true by rw [zJS]; exact hn];rfl
      rcases hc with ⟨e, _⟩ | ⟨he1, hc⟩
      ·have : qLI Tryz.prog 198 = false := by kernel_rfl
       rw [this] at e; cases e
      ·refine .inr ⟨he1, fun Z H m q9R a b c => (hc Z H m q9R a b c).mono ?_⟩;rintro r ⟨Z', m', pv, ph', a1, a2, a3, a4, v', h', rfl, rfl, _, q⟩;cases q;refine ⟨Z', m', _, _, a1, a2, a3, a4, 7, ?_, ?_⟩
       ·rw [zJS]; simp [SV.enc]
       ·rfl
end
end Go.Proofs.YtdhpibcacnndaaaGreatDoor
