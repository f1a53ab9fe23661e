/- The law PatternForms, over the model's own memory. Conditions: none. -/
import Derived.Test.YtpdlblofcdcikaaGreatDoorIdlJ
import Derived.Test.YtpdlblofcdcikaaGreatDoorF7
set_option linter.unusedSimpArgs false
set_option linter.unusedVariables false
namespace Go.Proofs.YtpdlblofcdcikaaGreatDoor
open Go.Idl

/-- the picture's slice in the world -/
def RRows (w : World) (A : Option Addr) (n c : Nat) (RA : Nat → Option Addr) (L C : Nat → Nat) (Z : Nat → List Int) : Prop :=
  (A = none ∧ n = 0 ∧ c = 0) ∨ ∃ a, A = some a ∧ n ≤ c ∧ (∀ r, r < c → w.cell? (a.add r) = some (.slice (RA r) (L r) (C r))) ∧ ∀ r, r < c → RInts w (RA r) (L r) (C r) (Z r)

theorem forms_calls {W : World} (hs : 3 ≤ W.heap.size) {n : Int} {Aw Ac Ap : Option Addr} {Lw Cw Lc Cc np cp : Nat} {Zw Zc : List Int} {RA : Nat → Option Addr} {L C : Nat → Nat} {Z : Nat → List Int}
    (hw : RInts W Aw Lw Cw Zw) (hc : RInts W Ac Lc Cc Zc) (hp : RRows W Ap np cp RA L C Z) :
    Calls Tryz.prog 3 #[.agg #[.int .i64 n, .slice Aw Lw Cw], .slice Ac Lc Cc, .slice Ap np cp] W fun e W' => e = .returned (.bool true) ∧ W.heap.size ≤ W'.heap.size ∧ (∀ r, r < W.heap.size → W'.heap[r]? = W.heap[r]?) ∧ W'.os = W.os ∧ W'.output = W.output ∧ W'.tape = W.tape := by
  have h0 : 0 < W.heap.size := by omega
  have hR0 : Rel Tryz.prog (globInj 3) (mkIH [] 3) W := globInj_rel 3 hs
  have hro0 : AllRo (globInj 3) := fun b e hb => by rw [(globInj_some hb).2]
  obtain ⟨f1, H1, u1, a1, a2, a3, a4, a5, a6, a7⟩ := addInts hR0 hro0 h0 hw
  obtain ⟨f2, H2, u2, b1, b2, b3, b4, b5, b6, b7⟩ := addInts a1 a3 h0 hc
  have hpic : ∃ f' H' ap ls, Rel Tryz.prog f' H' W ∧ f2.le f' ∧ AllRo f' ∧ Old H2 H' ∧ VRel Tryz.prog f' (.slice ap np cp) (.slice Ap np cp) ∧ lensOf H' ap np = some ls ∧
      (shortPic np ls = true → np = 0 ∨ 24 < np ∨ ∃ rs, picOf H' (.slice ap np cp) = some rs) := by
    rcases hp with ⟨rfl, rfl, rfl⟩ | ⟨a, rfl, hnc, hcell, hrow⟩
    · exact ⟨f2, H2, none, [], b1, f2.le_refl, b3, .refl _, .base _ rfl, by simp [lensOf], fun _ => .inl rfl⟩
    · by_cases hc0 : cp = 0
      · subst hc0
        have hn0 : np = 0 := by omega
        subst hn0
        obtain ⟨g1, g2⟩ := b1.addGhost b3 h0
        refine ⟨_, _, some ⟨H2.size, 0, none⟩, [], g1, g2, b3.add rfl, .push _ _, .gh Inj.add_same (by simp), by simp [lensOf, lensAt], fun _ => .inl rfl⟩
      · obtain ⟨f3, H3, us, c1, c2, c3, c4, c5, c6⟩ := addRows h0 RA L C Z np (fun r hr => hrow r (by omega)) b1 b3
        obtain ⟨el, g1, g2, g3⟩ := addWin c1 c3 hnc (by omega) us c5 (fun r => .slice (RA r) (L r) (C r)) hcell (fun i u hu => (c6 i u hu).1)
        refine ⟨_, _, some ⟨H3.size, 0, none⟩, (List.range (min np 25)).map fun j => L (0 + j), g1, Inj.le_trans c2 g2, c3.add rfl, c4.trans (.push _ _), ?_, ?_, ?_⟩
        · have := VRel.sl (P := Tryz.prog) (o := 0) (len := np) (cap := cp) (Inj.add_same (f := f3) (b := H3.size) (e := ⟨a.block, a.off, (match W.heap[a.block]? with | some (.cells c _ _) => c.size | _ => 0), true⟩))
          have ea : (⟨a.block, 0 + a.off, none⟩ : Addr) = a := by
            obtain ⟨ab, ao, asp⟩ := a
            simp only [Nat.zero_add] at g3 ⊢
            cases g3; rfl
          rw [ea] at this
          exact this
        · unfold lensOf
          simp only
          rw [if_pos (by simp)]
          exact lensAt_newF us L C (fun i u hu => (c6 i u hu).2.1) (min np 25) 0 (by omega)
        · intro hsp
          by_cases h24 : 24 < np
          · exact .inr (.inl h24)
          · refine .inr (.inr ?_)
            have hall : ∀ r, r < np → L r ≤ 1000 := by
              intro r hr
              unfold shortPic at hsp
              simp only [Bool.and_eq_true, List.all_eq_true] at hsp
              have := hsp.1 (L (0 + r)) (List.mem_map.2 ⟨r, List.mem_range.2 (by omega), rfl⟩)
              simp at this
              omega
            obtain ⟨rs, hrs⟩ := rowsAt_newF (H := H3) (el := el) (fz := (0, 1)) us (fun r => (Z r).take (L r)) (fun i u hu => (c6 i u hu).2.2 (hall i (by rw [← c5]; exact (List.getElem?_eq_some_iff.1 hu).1))) np 0 (by omega)
            refine ⟨rs, ?_⟩
            unfold picOf
            simp only
            rw [if_pos ⟨by omega, by simp⟩]
            exact hrs
  obtain ⟨f', H', ap, ls, d1, d2, d3, d4, d5, d6, d7⟩ := hpic
  obtain ⟨aw, rfl⟩ := a6
  obtain ⟨ac, rfl⟩ := b6
  have hin : FormsIn H' (.slice aw Lw Cw) Lw (.slice ac Lc Cc) Lc ap np cp ls :=
    ⟨⟨aw, Cw, rfl⟩, ⟨ac, Cc, rfl⟩, d6, fun h => ⟨_, intsOf_old (b4.trans d4) (a7 (by omega))⟩, fun h => ⟨_, intsOf_old d4 (b7 (by omega))⟩, d7⟩
  have hle : (globInj 3).le f' := Inj.le_trans a2 (Inj.le_trans b2 d2)
  have hG : Glob (globG 3) f' := (globInj_glob 3).mono hle
  have hargs : VRelL Tryz.prog f' [.agg #[.int .i64 n, .slice aw Lw Cw], .slice ac Lc Cc, .slice ap np cp] [.agg #[.int .i64 n, .slice Aw Lw Cw], .slice Ac Lc Cc, .slice Ap np cp] :=
    .cons (.of_agg (.cons (.base _ rfl) (.cons (a5.mono (Inj.le_trans b2 d2)) .nil))) (.cons (b5.mono d2) (.cons d5 .nil))
  have hcalls := call_holds (P := Tryz.prog) (G := globG 3) (c := c3) (Q := fun r => r.1 = .bool true) Tryz.func3 rfl d1 hG hargs ((forms_holds (n := n) hin).mono fun o ho => ⟨ho.1, _, ho.2.1, rfl⟩)
  refine (callsIn_wide.1 hcalls).mono ?_
  rintro e w' ⟨v', r, f2', rfl, hr, k1, k2, k3⟩
  rw [hr] at k3
  refine ⟨by rw [k3.boolV], k2.size, fun x hx => (k2.keep x hx ?_).2, k2.out⟩
  rintro ⟨b, e, hb, _, hroe⟩
  rw [d3 b e hb] at hroe
  cases hroe
end Go.Proofs.YtpdlblofcdcikaaGreatDoor
