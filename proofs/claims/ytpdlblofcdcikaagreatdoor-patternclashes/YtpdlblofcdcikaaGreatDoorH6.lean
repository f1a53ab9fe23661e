/- Maps from integers to pairs, in memory. Conditions: none. -/
import Derived.Test.YtpdlblofcdcikaaGreatDoorH5
set_option linter.unusedSimpArgs false
set_option linter.unusedVariables false
namespace Go.Proofs.YtpdlblofcdcikaaGreatDoor
open Go.Idl

theorem u122 : Tryz.prog.underlying 122 = some (.map 3 83) := by kernel_rfl
theorem chk3 (b : Bool) (k : Int) : sdry Tryz.prog (Instr.checkKey b 10000 3 (.int .i64 k)) = some () := by kernel_rfl
theorem fk3 (k : Value) (es : List MapEntry) : sdry Tryz.prog (Instr.findKey 3 k es) = sdry Tryz.prog (match Instr.findNow (.int .i64) k es 0 with
    | some r => pure r
    | none => Instr.findAsking 3 k es) := by kernel_rfl
theorem z83 : zeroT Tryz.prog 83 = some (.agg #[.int .i64 0, .int .i64 0]) := by kernel_rfl
/-- entries with integers as keys -/
def EntI (es : List MapEntry) (m : List (Int × Value)) : Prop := es.map (fun e => (e.key, e.val)) = m.map fun p => (Value.int .i64 p.1, p.2)
def mfind (k : Int) : List (Int × Value) → Nat → Option (Nat × Value)
  | [], _ => none
  | p :: m, i => if p.1 = k then some (i, p.2) else mfind k m (i + 1)
theorem findNow_I {k : Int} : ∀ (es : List MapEntry) (m : List (Int × Value)) (i : Nat), EntI es m → Instr.findNow (.int .i64) (.int .i64 k) es i = some (mfind k m i)
  | [], [], i, _ => rfl
  | [], p :: m, i, h => by cases h
  | e :: es, [], i, h => by cases h
  | e :: es, p :: m, i, h => by
    unfold EntI at h
    simp only [List.map_cons, List.cons.injEq, Prod.mk.injEq] at h
    obtain ⟨⟨h1, h2⟩, h3⟩ := h
    unfold Instr.findNow
    rw [h1]
    have hs : Instr.sameNow (.int .i64) (.int .i64 k) (.int .i64 p.1) = some (k == p.1) := by
      unfold Instr.sameNow
      simp
    rw [hs]
    unfold mfind
    by_cases hk : p.1 = k
    · rw [if_pos hk, h2]
      have : (k == p.1) = true := by simp [hk]
      rw [this]
    · rw [if_neg hk]
      have : (k == p.1) = false := by simp; exact fun e => hk e.symm
      rw [this]
      exact findNow_I es m (i + 1) h3
theorem mfind_get {k : Int} : ∀ (m : List (Int × Value)) (i j : Nat) (v : Value), mfind k m i = some (j, v) → i ≤ j ∧ m[j - i]? = some (k, v)
  | [], i, j, v, h => by cases h
  | p :: m, i, j, v, h => by
    unfold mfind at h
    split at h
    · rename_i hk
      cases h
      refine ⟨Nat.le_refl _, ?_⟩
      rw [Nat.sub_self]
      obtain ⟨a, b⟩ := p
      simp at hk
      simp [hk]
    · obtain ⟨h1, h2⟩ := mfind_get m (i + 1) j v h
      refine ⟨by omega, ?_⟩
      have : j - i = (j - (i + 1)) + 1 := by omega
      rw [this]
      simpa using h2
def MapI (H : IH) (b : Nat) (m : List (Int × Value)) : Prop := ∃ es clk, H.get b = some (.map es clk) ∧ EntI es.toList m
theorem EntI.plain {es : List MapEntry} {m : List (Int × Value)} (h : EntI es m) : (es.all fun e => plainV e.key) = true := by
  rw [List.all_eq_true]
  intro e he
  have h1 : (e.key, e.val) ∈ es.map fun e => (e.key, e.val) := List.mem_map.2 ⟨e, he, rfl⟩
  unfold EntI at h
  rw [h] at h1
  obtain ⟨p, _, hp⟩ := List.mem_map.1 h1
  simp only [Prod.mk.injEq] at hp
  rw [← hp.1]
  rfl
theorem ifind_I {es : Array MapEntry} {m : List (Int × Value)} (h : EntI es.toList m) (k : Int) : ifind Tryz.prog 3 (.int .i64 k) es.toList = some ((mfind k m 0).map (·.1)) := by
  unfold ifind
  rw [if_pos (by rw [h.plain]; rfl)]
  have h1 : sdry Tryz.prog (Instr.findKey 3 (.int .i64 k) es.toList) = some (mfind k m 0) := by
    rw [fk3, findNow_I _ _ _ h]; rfl
  simp only [chk3, h1]
theorem MapI.found {H : IH} {b : Nat} {m : List (Int × Value)} (h : MapI H b m) {k : Int} {j : Nat} {v : Value} (hf : mfind k m 0 = some (j, v)) : ilookup Tryz.prog 122 (.map (some b)) (.int .i64 k) true H = some (.tuple #[v, .bool true]) := by
  obtain ⟨es, clk, hg, he⟩ := h
  unfold ilookup
  simp only [u122, hg, ifind_I he, hf, Option.map_some]
  obtain ⟨_, h2⟩ := mfind_get _ _ _ _ hf
  have h3 := congrArg (fun l => l[j]?) he
  simp only [List.getElem?_map, Nat.sub_zero] at h2 h3
  rw [h2] at h3
  cases hx : es.toList[j]? with
  | none => rw [hx] at h3; cases h3
  | some e =>
    rw [hx] at h3
    simp only [Option.map_some, Option.some.injEq, Prod.mk.injEq] at h3
    have hx' : es[j]? = some e := by simpa using hx
    simp only [hx', h3.2]
    rfl
theorem MapI.missed {H : IH} {b : Nat} {m : List (Int × Value)} (h : MapI H b m) {k : Int} (hf : mfind k m 0 = none) : ilookup Tryz.prog 122 (.map (some b)) (.int .i64 k) true H = some (.tuple #[.agg #[.int .i64 0, .int .i64 0], .bool false]) := by
  obtain ⟨es, clk, hg, he⟩ := h
  unfold ilookup
  simp only [u122, hg, ifind_I he, hf, Option.map_none, z83]
  rfl
theorem MapI.update {H : IH} {b : Nat} {m : List (Int × Value)} (h : MapI H b m) {k : Int} {v : Value} (hf : mfind k m 0 = none) (hb : H.base ≤ b) (hv : notTuple v = true) :
    ∃ o, imapUpdate Tryz.prog 122 (.map (some b)) (.int .i64 k) v H = some (H.put b o) ∧ MapI (H.put b o) b (m ++ [(k, v)]) := by
  obtain ⟨es, clk, hg, he⟩ := h
  refine ⟨.map (es.push { key := .int .i64 k, val := v, born := clk }) (clk + 1), ?_, _, _, get_put_eq, ?_⟩
  · unfold imapUpdate
    simp only [u122, hg, ifind_I he, hf, Option.map_none]
    rw [if_pos (by simp [hb, hv])]
  · unfold EntI at he ⊢
    simp [he]
theorem MapI.keep {H H' : IH} {b : Nat} {m : List (Int × Value)} (h : MapI H b m) (hk : H'.get b = H.get b) : MapI H' b m := by
  obtain ⟨es, clk, hg, he⟩ := h
  exact ⟨es, clk, hk.trans hg, he⟩
end Go.Proofs.YtpdlblofcdcikaaGreatDoor
