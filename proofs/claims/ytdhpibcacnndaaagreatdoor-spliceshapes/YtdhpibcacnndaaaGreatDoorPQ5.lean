/- Plain law of SpliceShapes. Conditions: none. -/
import Derived.Test.YtdhpibcacnndaaaGreatDoorPQ4
set_option linter.all false
set_option maxRecDepth 10000
namespace Go.Proofs.YtdhpibcacnndaaaGreatDoor
open Go Go.Idl Go.Sv Go.Proofs
noncomputable def F60 (x0 : Net) (s2 : Int × Int) : Option ((Int × Int) ⊕ (Int × Int ⊕ Int ⊕ Nat × Int × Int)) := q9D.ite (decide (s2.snd < (↑x0.snd.length : Int))) (q9D.bind (idx x0.snd.length s2.snd) fun (x3 : Nat) => q9D.bind x0.snd[x3]? fun (x4 : Int × Int) => q9D.bind (H33 (x4.fst, 0, 500)) fun (x5 : Bool) => q9D.ite (y7 x5 false) (q9D.bind (H33 (x4.snd, 0, 500)) fun (x6 : Bool) => q9D.ite x6 (q9D.ret (Sum.inr (Sum.inr (Sum.inl 3)))) (q9D.ite (decide (s2.fst < IntKind.i64.wrap (x4.fst + IntKind.i64.wrap (2 * x4.snd)))) (q9D.ret (Sum.inr (Sum.inr (Sum.inl 18)))) (q9D.bind (H33 (IntKind.i64.wrap (s2.fst + IntKind.i64.wrap (x4.fst - x4.snd)), 1, 500)) fun (x7 : Bool) => q9D.ite x7 (q9D.ret (Sum.inr (Sum.inr (Sum.inl 3)))) (q9D.ret (Sum.inl (IntKind.i64.wrap (s2.fst + IntKind.i64.wrap (x4.fst - x4.snd)), IntKind.i64.wrap (s2.snd + 1))))))) (q9D.ret (Sum.inr (Sum.inr (Sum.inl 3))))) (q9D.ret (Sum.inr (Sum.inl (s2.fst, s2.snd))))
theorem n60 (x : Net) (hl : x.2.length < 2 ^ 62) : ∃ c, H60 x = some c := by
 have key : ∀ (m k : Nat) (u : Int), k + m = x.2.length -> ∃ c, (q9D.bind (yK (F60 x) (u, (k : Int))) fun (x2 : Int × Int ⊕ Int ⊕ Nat × Int × Int) => q9D.sum x2 (fun (s3 : Int × Int) => (q9D.ret 0 : q9D Int)) fun (s3 : Int ⊕ Nat × Int × Int) => q9D.sum s3 (fun (s4 : Int) => q9D.ret s4) fun (s4 : Nat × Int × Int) => q9D.fail) = q9D.ret c := by
  intro m
  induction m with
  | zero =>
    intro k u hk
    have hF : F60 x (u, (k : Int)) = some (.inr (.inl (u, (k : Int)))) := by
     unfold F60;simp only;rw [q6S (by omega)]; rfl
    rw [jM hF]; exact ⟨_, rfl⟩
  | succ m ih =>
    intro k u hk;have hlt : k < x.2.length := by omega
    have hF : (∃ r, F60 x (u, (k : Int)) = some (.inr (.inr (.inl r)))) ∨ ∃ u', F60 x (u, (k : Int)) = some (.inl (u', ((k + 1 : Nat) : Int))) := by
     unfold F60;simp only [q41 (show (k : Int) < (x.2.length : Int) by omega), fB, qHK hlt, yH, zI9 hlt, e33, qXW (show k < 2 ^ 62 by omega)]
     cases outs x.2[k].1 0 500 <;> cases outs x.2[k].2 0 500 <;> cases decide (u < IntKind.i64.wrap (x.2[k].1 + IntKind.i64.wrap (2 * x.2[k].2))) <;> cases outs (IntKind.i64.wrap (u + IntKind.i64.wrap (x.2[k].1 - x.2[k].2))) 1 500 <;> first | exact .inl ⟨_, rfl⟩ | exact .inr ⟨_, rfl⟩
    rcases hF with ⟨r, h⟩ | ⟨u', h⟩
    ·rw [jM h]; exact ⟨_, rfl⟩
    ·rw [uJ h]; exact ih (k + 1) u' (by omega)
 show ∃ c, (G60 x).run = some c;unfold G60;have e : H33 (x.fst, 1, 500) = some (outs x.1 1 500) := h33 _ _ _;refine Exists.imp (fun c h => Eq.trans (congrArg (fun o => q9D.run (q9D.bind o _)) e) h) ?_
 cases outs x.1 1 500 with
 | true => exact ⟨_, rfl⟩
 | false =>
   cases hd : decide (64 < (↑x.2.length : Int)) with
   | true =>
     exact ⟨5, rfl⟩
   | false =>
     obtain ⟨c, hc⟩ := key x.2.length 0 x.1 (by omega);exact ⟨c, hc⟩
end Go.Proofs.YtdhpibcacnndaaaGreatDoor
