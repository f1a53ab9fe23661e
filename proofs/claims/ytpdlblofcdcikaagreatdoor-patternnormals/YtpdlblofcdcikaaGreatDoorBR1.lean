/- From functions with contracts to the model's calls; arguments that lie in the world. Conditions: none. -/
import Derived.Test.YtpdlblofcdcikaaGreatDoorSvB
set_option linter.unusedSimpArgs false
set_option linter.unusedVariables false
set_option linter.unusedVariables false
set_option linter.unusedSimpArgs false
namespace Go.Sv
open Go.Idl
variable {P : Program} {good : FuncId → Bool} {G : Nat → Bool} {T : STab} {IT : List (FuncId × IEnt)}

theorem Lib.calls (L : Lib P good G T IT) {g : FuncId} {ent : Ent} (hs : slT g T = some ent) {x : TyL ent.as} {y : TyL ent.rs} (hF : ent.F x = some y) {Z : Nat → Prop} {H : IH} {args args' : List Value} {f : Inj} {w : World} (hR : Rel P f H w) (hG : Glob G f) (ha : VRelL P f args args')
    (hz : ∀ b, Z b → b < H.size) (hb : H.base ≤ H.size) (hv : VRL P Z H (fun _ => none) (pvL ent.as x) args) :
    CallsIn Fence.wide 0 P g args'.toArray w (Go.Idl.Comes P f H w fun r => Old H r.2 ∧ ∃ Z' : Nat → Prop, VR P Z' r.2 (fun _ => none) (resPV ent.rs y) r.1) := by
  obtain ⟨nat, tab, s, ht, _⟩ := L
  letI : Yl := ⟨0⟩
  have h := ht g ent hs x
  rw [hF] at h
  obtain ⟨_, _, k, hk, hctr⟩ := s.t g _ _ h
  exact s.s.spec g k hk args args' H f w _ hR hG ha (hctr Z H args hv hz hb _ fun v H' Z' a1 a2 a3 a4 a5 => ⟨a1, Z', a5⟩)

/-! ### Slices of the world, told -/
/-- all that lies there -/
def ZA (H : IH) : Nat → Prop := fun b => b < H.size
theorem _root_.Go.Idl.FR.up {H H' : IH} (h : Old H H') {x : FV} {v : Value} (hx : FR (ZA H) H x v) : FR (ZA H') H' x v := hx.mono (fun b hb => Nat.lt_of_lt_of_le hb h.size) h.size fun b _ hb => h.get b hb
abbrev tInt : Ty := .int .i64
def fvInts (zs : List Int) : FV := (Ty.list 3 tInt).fv zs
theorem fvInts_eq (zs : List Int) : fvInts zs = .l 3 zs.length (zs.map fun z => .v (.int .i64 z)) := by
  unfold fvInts
  show FV.l 3 zs.length (zs.flatMap fun z => [FV.v (.int .i64 z)]) = _
  congr 1
  induction zs with
  | nil => rfl
  | cons z zs ih => rw [List.flatMap_cons, ih]; rfl
theorem addIntsF {f : Inj} {H : IH} {w : World} (hR : Rel P f H w) (hro : AllRo f) (h0 : 0 < w.heap.size) {A : Option Addr} {L C : Nat} {Z : List Int} (h : RInts w A L C Z) :
    ∃ f' H' u, Rel P f' H' w ∧ f.le f' ∧ AllRo f' ∧ Old H H' ∧ VRel P f' u (.slice A L C) ∧ FR (ZA H') H' (fvInts (Z.take L)) u := by
  rcases h with ⟨rfl, rfl, rfl⟩ | ⟨a, rfl, hLC, hZ, hcell⟩
  · refine ⟨f, H, .slice none 0 0, hR, f.le_refl, hro, .refl H, .base _ rfl, ?_⟩
    rw [fvInts_eq]
    exact .nil (fun _ => rfl) fun x h => by cases h
  · by_cases hC : C = 0
    · subst hC
      have hL : L = 0 := by omega
      subst hL
      obtain ⟨g1, g2⟩ := hR.addGhost hro h0
      refine ⟨_, _, .slice (some ⟨H.size, 0, none⟩) 0 0, g1, g2, hro.add rfl, .push _ _, .gh Inj.add_same (by simp), ?_⟩
      rw [fvInts_eq]
      exact .nil (fun h => by cases h) fun x h => by cases h; exact .inl rfl
    · have hlen : ((Z.take L).map (Value.int .i64)).length = L := by simp; omega
      obtain ⟨el, g1, g2, g3⟩ := addWin hR hro hLC (by omega) ((Z.take L).map (Value.int .i64)) hlen (fun i => .int .i64 (Z.getD i 0)) hcell (fun i u hu => by
        rw [List.getElem?_map, List.getElem?_take] at hu
        split at hu
        · cases hz : Z[i]? with
          | none => rw [hz] at hu; cases hu
          | some z =>
            rw [hz] at hu
            cases hu
            have : Z.getD i 0 = z := by simp [List.getD, hz]
            rw [this]
            exact .base _ rfl
        · cases hu)
      refine ⟨_, _, .slice (some ⟨H.size, 0, none⟩) L C, g1, g2, hro.add rfl, .push _ _, ?_, ?_⟩
      · have := VRel.sl (P := P) (o := 0) (len := L) (cap := C) (Inj.add_same (f := f) (b := H.size) (e := ⟨a.block, a.off, (match w.heap[a.block]? with | some (.cells c _ _) => c.size | _ => 0), true⟩))
        have ea : (⟨a.block, 0 + a.off, none⟩ : Addr) = a := by
          obtain ⟨ab, ao, as⟩ := a
          simp only [Nat.zero_add] at g3 ⊢
          cases g3; rfl
        rw [ea] at this
        exact this
      · rw [fvInts_eq]
        have hzl : (Z.take L).length = L := by simp; omega
        rw [hzl]
        refine .l (b := H.size) (o := 0) (vs := (Z.take L).map (Value.int .i64)) (Nat.lt_succ_self _) (Nat.lt_succ_self _) hLC (.inl rfl) ?_ fun i x v hx hv => ?_
        · refine loads_cells get_push_eq (by simp) ?_
          rw [List.drop_zero, List.take_of_length_le (by simp)]
        · rw [List.getElem?_map] at hx hv
          cases hz : (Z.take L)[i]? with
          | none => rw [hz] at hx; cases hx
          | some z =>
            rw [hz] at hx hv
            cases hx
            cases hv
            exact .v rfl rfl
theorem addRowsF {w : World} (h0 : 0 < w.heap.size) (A : Nat → Option Addr) (L C : Nat → Nat) (Z : Nat → List Int) : ∀ (n : Nat), (∀ r, r < n → RInts w (A r) (L r) (C r) (Z r)) → ∀ {f : Inj} {H : IH}, Rel P f H w → AllRo f →
    ∃ (f' : Inj) (H' : IH) (us : List Value), Rel P f' H' w ∧ f.le f' ∧ AllRo f' ∧ Old H H' ∧ us.length = n ∧ ∀ i u, us[i]? = some u → VRel P f' u (.slice (A i) (L i) (C i)) ∧ FR (ZA H') H' (fvInts ((Z i).take (L i))) u
  | 0, _, f, H, hR, hro => ⟨f, H, [], hR, f.le_refl, hro, .refl H, rfl, fun i u h => by simp at h⟩
  | n + 1, hrow, f, H, hR, hro => by
    obtain ⟨f1, H1, us, a1, a2, a3, a4, a5, a6⟩ := addRowsF h0 A L C Z n (fun r hr => hrow r (by omega)) hR hro
    obtain ⟨f2, H2, u, b1, b2, b3, b4, b5, b6⟩ := addIntsF a1 a3 h0 (hrow n (by omega))
    refine ⟨f2, H2, us ++ [u], b1, Inj.le_trans a2 b2, b3, a4.trans b4, by simp [a5], fun i v hv => ?_⟩
    by_cases hi : i < n
    · rw [List.getElem?_append_left (by omega)] at hv
      obtain ⟨c1, c2⟩ := a6 i v hv
      exact ⟨c1.mono b2, c2.up b4⟩
    · have hlt := (List.getElem?_eq_some_iff.1 hv).1
      simp [a5] at hlt
      have : i = n := by omega
      subst this
      rw [List.getElem?_append_right (by omega), a5, Nat.sub_self] at hv
      simp at hv
      subst hv
      exact ⟨b5, b6⟩
/-- a slice of slices in the world -/
def RRows (w : World) (A : Option Addr) (n c : Nat) (RA : Nat → Option Addr) (L C : Nat → Nat) (Z : Nat → List Int) : Prop :=
  (A = none ∧ n = 0 ∧ c = 0) ∨ ∃ a, A = some a ∧ n ≤ c ∧ (∀ r, r < c → w.cell? (a.add r) = some (.slice (RA r) (L r) (C r))) ∧ ∀ r, r < c → RInts w (RA r) (L r) (C r) (Z r)
abbrev tPic (el : TypeId) : Ty := .list el (.list 3 tInt)
theorem fvPic_eq (el : TypeId) (p : List (List Int)) : (tPic el).fv p = .l el p.length (p.map fvInts) := by
  show FV.l el p.length (p.flatMap fun r => [fvInts r]) = _
  congr 1
  induction p with
  | nil => rfl
  | cons z zs ih => rw [List.flatMap_cons, ih]; rfl
theorem addPicF {f : Inj} {H : IH} {w : World} (el : TypeId) (hR : Rel P f H w) (hro : AllRo f) (h0 : 0 < w.heap.size) {A : Option Addr} {np cp : Nat} {RA : Nat → Option Addr} {L C : Nat → Nat} {Z : Nat → List Int} (hp : RRows w A np cp RA L C Z) :
    ∃ f' H' u p, Rel P f' H' w ∧ f.le f' ∧ AllRo f' ∧ Old H H' ∧ VRel P f' u (.slice A np cp) ∧ FR (ZA H') H' ((tPic el).fv p) u := by
  rcases hp with ⟨rfl, rfl, rfl⟩ | ⟨a, rfl, hnc, hcell, hrow⟩
  · refine ⟨f, H, .slice none 0 0, [], hR, f.le_refl, hro, .refl _, .base _ rfl, ?_⟩
    exact .nil (fun _ => rfl) fun x h => by cases h
  · by_cases hc0 : cp = 0
    · subst hc0
      have hn0 : np = 0 := by omega
      subst hn0
      obtain ⟨g1, g2⟩ := hR.addGhost hro h0
      refine ⟨_, _, .slice (some ⟨H.size, 0, none⟩) 0 0, [], g1, g2, hro.add rfl, .push _ _, .gh Inj.add_same (by simp), ?_⟩
      exact .nil (fun h => by cases h) fun x h => by cases h; exact .inl rfl
    · obtain ⟨f3, H3, us, c1, c2, c3, c4, c5, c6⟩ := addRowsF h0 RA L C Z np (fun r hr => hrow r (by omega)) hR hro
      obtain ⟨el2, g1, g2, g3⟩ := addWin c1 c3 hnc (by omega) us c5 (fun r => .slice (RA r) (L r) (C r)) hcell (fun i u hu => (c6 i u hu).1)
      refine ⟨_, _, .slice (some ⟨H3.size, 0, none⟩) np cp, (List.range np).map fun r => (Z r).take (L r), g1, Inj.le_trans c2 g2, c3.add rfl, c4.trans (.push _ _), ?_, ?_⟩
      · have := VRel.sl (P := P) (o := 0) (len := np) (cap := cp) (Inj.add_same (f := f3) (b := H3.size) (e := ⟨a.block, a.off, (match w.heap[a.block]? with | some (.cells c _ _) => c.size | _ => 0), true⟩))
        have ea : (⟨a.block, 0 + a.off, none⟩ : Addr) = a := by
          obtain ⟨ab, ao, asp⟩ := a
          simp only [Nat.zero_add] at g3 ⊢
          cases g3; rfl
        rw [ea] at this
        exact this
      · rw [fvPic_eq]
        have hl : ((List.range np).map fun r => (Z r).take (L r)).length = np := by simp
        rw [hl]
        refine .l (b := H3.size) (o := 0) (vs := us) (Nat.lt_succ_self _) (Nat.lt_succ_self _) hnc (.inl rfl) ?_ fun i x v hx hv => ?_
        · refine loads_cells get_push_eq (by simp [c5]) ?_
          rw [List.drop_zero, List.take_of_length_le (by simp [c5])]
        · rw [List.getElem?_map, List.getElem?_map] at hx
          have hi : i < np := by rw [← c5]; exact (List.getElem?_eq_some_iff.1 hv).1
          rw [List.getElem?_range hi] at hx
          cases hx
          exact (c6 i v hv).2.up (.push _ _)
end Go.Sv
