/- Operations on values without a heap against the ideal ones: reading, parts, writing, new objects. Conditions: none. -/
import Derived.Test.YtpdlblofcdcikaaGreatDoorPur3
set_option linter.unusedSimpArgs false
set_option linter.unusedVariables false
namespace Go.Idl
variable {P : Program} {Z : Nat → Prop} {H : IH} {M : Nat → Option (Nat × PO)} {m : Nat → Nat} {ph : PHp}

/-! ### Parts -/
def vpart (P : Program) (t : TypeId) (vs : List Value) (off : Nat) : Option Value := match aggT P t with
  | some true => (match szT P t with
    | some n => if off + n ≤ vs.length then some (.agg ((vs.drop off).take n).toArray) else none
    | none => none)
  | some false => vs[off]?
  | none => none
theorem vpart_load {t : TypeId} {vs : List Value} {b off : Nat} {el : TypeId} {fz : Nat × Nat} (h : H.get b = some (.cells vs.toArray el fz)) : iloadAt P t (.pointer (some ⟨b, off, none⟩)) H = vpart P t vs off := by
  unfold iloadAt vpart IH.load IH.loads
  simp only [h]
  cases aggT P t with
  | none => rfl
  | some x =>
    cases x with
    | false => simp
    | true =>
      cases szT P t with
      | none => rfl
      | some n =>
        simp only [List.size_toArray]
        by_cases hc : off + n ≤ vs.length
        · rw [if_pos hc, if_pos hc]
        · rw [if_neg hc, if_neg hc]
theorem vpart_ipart {t : TypeId} {vs : Array Value} {off : Nat} : ipart P t vs off = vpart P t vs.toList off := by
  unfold ipart vpart
  cases aggT P t with
  | none => rfl
  | some x =>
    cases x with
    | false => simp
    | true =>
      cases szT P t with
      | none => rfl
      | some n =>
        simp only [Array.length_toList]
        by_cases hc : off + n ≤ vs.size
        · rw [if_pos hc, if_pos hc]
          congr 2
          apply Array.ext'
          rw [Array.toList_extract, List.extract_eq_take_drop]
          congr 1; omega
        · rw [if_neg hc, if_neg hc]
theorem VRL.toA {cs : List PV} {vs : List Value} (h : VRL P Z H M cs vs) : VR P Z H M (.agg cs) (.agg vs.toArray) := .agg (by simpa using h.len) fun i x v h1 h2 => h.val i x v h1 (by simpa using h2)
theorem ppart_ok {t : TypeId} {cs : List PV} {vs : List Value} {off : Nat} {x : PV} (h : VRL P Z H M cs vs) (hp : ppart P t cs off = some x) : ∃ v, vpart P t vs off = some v ∧ VR P Z H M x v := by
  unfold ppart at hp
  unfold vpart
  split at hp
  · rename_i ha
    split at hp
    · rename_i n hn
      cases hc : Nat.ble (off + n) cs.length with
      | false => rw [hc] at hp; cases hp
      | true =>
        rw [hc] at hp; cases hp
        have hle : off + n ≤ cs.length := Nat.le_of_ble_eq_true hc
        simp only [ha, hn]
        rw [if_pos (by rw [← h.len]; exact hle)]
        exact ⟨_, rfl, ((h.drop off).take n).toA⟩
    · cases hp
  · rename_i ha
    rw [nthR_eq] at hp
    obtain ⟨v, h1, h2⟩ := h.get hp
    simp only [ha]
    exact ⟨v, h1, h2⟩
  · cases hp
theorem fcells {cs : List FV} {vs : List Value} (hl : cs.length = vs.length) (hc : ∀ (i : Nat) x v, cs[i]? = some x → vs[i]? = some v → FR Z H x v) : VRL P Z H M (cs.map .f) vs :=
  ⟨by simpa using hl, fun i x v h1 h2 => by
    rw [List.getElem?_map] at h1
    obtain ⟨y, h3, rfl⟩ := Option.map_eq_some_iff.1 h1
    exact .f (hc i y v h3 h2)⟩
theorem fpart_eq {t : TypeId} {cs : List FV} {off : Nat} {x : PV} (h : fpart P t cs off = some x) : ppart P t (cs.map .f) off = some x := by
  unfold fpart at h
  unfold ppart
  split at h
  · rename_i ha
    try simp only [ha]
    split at h
    · rename_i n hn
      simp only [hn, List.length_map]
      cases hc : Nat.ble (off + n) cs.length with
      | false => rw [hc] at h; cases h
      | true => rw [hc] at h; cases h; simp [List.map_drop, List.map_take]
    · cases h
  · rename_i ha
    try simp only [ha]
    rw [nthR_eq, List.getElem?_map]
    split at h
    · rename_i y hy; cases h; rw [hy]; rfl
    · cases h
  · cases h
/-- a list that is not written, whole: a window of a block -/
theorem win_load {t : TypeId} {b o off n : Nat} {vs : List Value} {v : Value} (hl : H.loads b o n = some vs) (h : vpart P t vs off = some v) : iloadAt P t (.pointer (some ⟨b, o + off, none⟩)) H = some v := by
  unfold IH.loads at hl
  split at hl
  · rename_i c el fz hg
    split at hl
    · rename_i hn
      cases hl
      rw [vpart_load (vs := c.toList) (el := el) (fz := fz) (by simpa using hg)]
      unfold vpart at h ⊢
      split at h
      · rename_i ha
        try simp only [ha]
        split at h
        · rename_i k hk
          try simp only [hk]
          split at h
          · rename_i hle
            cases h
            simp only [List.length_take, List.length_drop, Array.length_toList] at hle
            rw [if_pos (by rw [Array.length_toList]; omega)]
            congr 3
            rw [List.drop_take, List.take_take, List.drop_drop]
            congr 1; omega
          · cases h
        · cases h
      · rename_i ha
        try simp only [ha]
        rw [List.getElem?_take] at h
        split at h
        · rw [List.getElem?_drop] at h; exact h
        · cases h
      · cases h
    · cases hl
  · cases hl

theorem ref_live {k tt off : Nat} {v : Value} {ob : PO} (h : VR P Z H (own m ph) (.ref k tt off) v) (hl : plook k ph = some ob) (he : tt = ob.cs.length) : v = .pointer (some ⟨m k, off, none⟩) ∧ (ob.gr = true → tt ≠ 0) := by
  cases h with
  | ref _ h => exact (h (m k) ob (own_some hl)).2 he
theorem Hp.real {k : Nat} {ob : PO} (hp : Hp P Z H (own m ph)) (hl : plook k ph = some ob) (hr : real ob) : m k < H.size ∧ H.base ≤ m k ∧ ¬ Z (m k) ∧ ∃ vs, H.get (m k) = some (.cells vs.toArray ob.el (cond ob.gr roomFz (0, 0))) ∧ VRL P Z H (own m ph) ob.cs vs ∧ vs.all oneCell = true := by
  rcases hp.obj k (m k) ob (own_some hl) with h | h
  · exact absurd h hr
  · exact h
theorem real_of {ob : PO} {tt : Nat} (he : tt = ob.cs.length) (h : ob.gr = true → tt ≠ 0) : Go.Idl.real ob := fun ⟨h1, h2⟩ => h h1 (by rw [he, h2]; rfl)

theorem pload_ok {t : TypeId} {a x : PV} {v : Value} (hp : Hp P Z H (own m ph)) (ha : VR P Z H (own m ph) a v) (h : pload P t a ph = some x) : ∃ u, iloadAt P t v H = some u ∧ VR P Z H (own m ph) x u := by
  unfold pload at h
  split at h
  · rename_i k tt off
    split at h
    · rename_i ob hl
      cases hb : Nat.beq tt ob.cs.length with
      | false => rw [hb] at h; cases h
      | true =>
        rw [hb] at h
        have he := Nat.eq_of_beq_eq_true hb
        obtain ⟨rfl, hz⟩ := ref_live ha hl he
        obtain ⟨_, _, _, vs, q1, q2, q3⟩ := hp.real hl (real_of he hz)
        obtain ⟨u, h1, h2⟩ := ppart_ok q2 h
        exact ⟨u, by rw [vpart_load q1]; exact h1, h2⟩
    · cases h
  · rename_i cs off
    cases ha with
    | lp hz hb hl hc =>
      obtain ⟨u, h1, h2⟩ := ppart_ok (P := P) (M := own m ph) (fcells (by rw [loads_len hl]) hc) (fpart_eq h)
      exact ⟨u, win_load hl h1, h2⟩
  · cases h

theorem pstore_ok {p : Nat → Bool} {t : TypeId} {a x : PV} {va vx : Value} {ph' : PHp} (hp : Hp P Z H (own m ph)) (ha : VR P Z H (own m ph) a va) (hx : VR P Z H (own m ph) x vx) (h : pstore P t a x ph = some ph') : Res P Z H m ph p (.tup []) ph' (skipO (istoreAt P t va vx H)) := by
  unfold pstore at h
  split at h
  · rename_i k tt off
    split at h
    · rename_i ob hl
      split at h
      · rename_i n hn
        cases hb : (Nat.beq tt ob.cs.length && (Nat.beq n (pcells x).length && (Nat.ble (off + n) ob.cs.length && (pnt x && (pcells x).all pone)))) with
        | false => rw [hb] at h; cases h
        | true =>
          rw [hb] at h; cases h
          simp only [Bool.and_eq_true] at hb
          obtain ⟨b1, b2, b3, b4, b5⟩ := hb
          have he := Nat.eq_of_beq_eq_true b1
          have hn2 := Nat.eq_of_beq_eq_true b2
          have hn3 := Nat.le_of_ble_eq_true b3
          obtain ⟨rfl, hz⟩ := ref_live ha hl he
          obtain ⟨w1, w2, w3, vs, q1, q2, q3⟩ := hp.real hl (real_of he hz)
          obtain ⟨c1, c2⟩ := hx.cells b4
          have c3 := c1.one b5
          have hlen : off + vx.cells.toList.length ≤ vs.length := by rw [← q2.len, ← c1.len]; omega
          obtain ⟨r1, r2, r3⟩ := hp.put hl (real_of he hz) (over_len (i := off) (ys := pcells x) (by omega)) (q2.over c1 off) (over_one q3 c3)
          refine ⟨_, _, Z, m, ?_, r1, .tup (vs := #[]) rfl (fun i x v h => by simp at h), r2, r3 p⟩
          have : istoreAt P t (.pointer (some ⟨m k, off, none⟩)) vx H = some (H.put (m k) (.cells (overwrite vs off vx.cells.toList).toArray ob.el (cond ob.gr roomFz (0, 0)))) := by
            unfold istoreAt
            simp only []
            rw [if_pos (by rw [hn, hn2, c1.len]; simp)]
            unfold IH.stores
            rw [q1]
            simp only
            rw [if_pos]
            have hf : freeFz (cond ob.gr roomFz (0, 0)) = true := by cases ob.gr <;> rfl
            simp only [hf, c3, w2, decide_true, Bool.and_true, Bool.true_and, decide_eq_true_eq, List.size_toArray]
            exact hlen
          rw [this]; rfl
      · cases h
    · cases h
  · cases h

/-! ### Zero values -/
theorem zc_ok {t : TypeId} {z : List PV} (h : zc P t = some z) : ∃ zv, zeroP P t = some zv ∧ VRL P Z H M z zv.cells.toList ∧ zv.cells.toList.all oneCell = true ∧ z = mapR fvv zv.cells.toList := by
  unfold zc at h
  split at h
  · rename_i zv hz
    cases hc : allR okC zv.cells.toList with
    | false => rw [hc] at h; cases h
    | true =>
      rw [hc] at h; cases h
      exact ⟨zv, hz, .of_map (fun v h => fvv_ok h) hc, okC_one hc, rfl⟩
  · cases h
theorem noK_fvv (k : Nat) : ∀ (l : List Value), noKL k (mapR fvv l) = true
  | [] => rfl
  | v :: l => by
    show (noK k (fvv v) && noKL k (mapR fvv l)) = true
    rw [noK_fvv k l]; rfl
theorem noKL_app {k : Nat} : ∀ {l r : List PV}, noKL k (l ++ r) = (noKL k l && noKL k r)
  | [], r => by simp [noKL]
  | x :: l, r => by simp only [List.cons_append, noKL, noKL_app (l := l), Bool.and_assoc]
theorem noKL_take {k : Nat} : ∀ {l : List PV} {n : Nat}, noKL k l = true → noKL k (l.take n) = true
  | [], n, _ => by simp [noKL]
  | x :: l, 0, _ => rfl
  | x :: l, n + 1, h => by
    simp only [noKL, Bool.and_eq_true] at h
    simp only [List.take_succ_cons, noKL, Bool.and_eq_true]
    exact ⟨h.1, noKL_take h.2⟩
theorem noKL_drop {k : Nat} : ∀ {l : List PV} {n : Nat}, noKL k l = true → noKL k (l.drop n) = true
  | [], n, _ => by simp [noKL]
  | x :: l, 0, h => h
  | x :: l, n + 1, h => by
    simp only [noKL, Bool.and_eq_true] at h
    rw [List.drop_succ_cons]
    exact noKL_drop h.2
theorem noKL_row {k : Nat} {z : List PV} (h : noKL k z = true) : ∀ (n : Nat), noKL k (prow n z) = true
  | 0 => rfl
  | n + 1 => by
    have : prow (n + 1) z = z ++ prow n z := by unfold prow; rw [List.replicate_succ, List.flatten_cons]
    rw [this, noKL_app, h, noKL_row h n]; rfl
theorem noK_cells {k : Nat} {x : PV} (h : noK k x = true) : noKL k (pcells x) = true := by
  cases x <;> first | exact h | (simp only [pcells, noKL, h, Bool.and_true])
theorem prow_len {n : Nat} {z : List PV} : (prow n z).length = n * z.length := by unfold prow; simp
theorem VRL.row {z : List PV} {vs : List Value} (h : VRL P Z H M z vs) : ∀ (n : Nat), VRL P Z H M (prow n z) (List.replicate n vs).flatten
  | 0 => .nil
  | n + 1 => by
    have e1 : prow (n + 1) z = z ++ prow n z := by unfold prow; rw [List.replicate_succ, List.flatten_cons]
    rw [e1, List.replicate_succ, List.flatten_cons]
    exact h.append (VRL.row h n)
theorem flat_get {α : Type} {vs : List α} (hs : 0 < vs.length) : ∀ (n i : Nat), i < n * vs.length → (List.replicate n vs).flatten[i]? = vs[i % vs.length]?
  | 0, i, h => by omega
  | n + 1, i, h => by
    rw [List.replicate_succ, List.flatten_cons]
    by_cases hi : i < vs.length
    · rw [List.getElem?_append_left hi, Nat.mod_eq_of_lt hi]
    · have hi' : vs.length ≤ i := by omega
      rw [List.getElem?_append_right hi', flat_get hs n (i - vs.length) (by rw [Nat.succ_mul] at h; omega), Nat.mod_eq_sub_mod hi']
theorem zeroRow_eq {el : TypeId} {zv : Value} {s n : Nat} (hz : zeroP P el = some zv) (hs : zv.cells.toList.length = s + 1) : zeroRow P el (n * (s + 1)) = some ((List.replicate n zv.cells.toList).flatten).toArray := by
  unfold zeroRow
  by_cases h0 : n * (s + 1) = 0
  · have : n = 0 := by
      rcases Nat.mul_eq_zero.1 h0 with h | h
      · exact h
      · omega
    subst this
    rw [if_pos h0]; rfl
  · rw [if_neg h0, hz]
    simp only [Option.map_some, Option.some.injEq]
    have hs' : zv.cells.size = s + 1 := by simpa using hs
    apply Array.ext'
    apply List.ext_getElem?
    intro i
    by_cases hi : i < n * (s + 1)
    · rw [flat_get (by omega) n i (by rw [hs]; exact hi)]
      have hm : i % (s + 1) < zv.cells.size := by rw [hs']; exact Nat.mod_lt _ (by omega)
      have e : zv.cells[i % (s + 1)]! = zv.cells[i % (s + 1)] := by rw [getElem!_pos zv.cells (i % (s + 1)) hm]
      simp [hi, hs', hs, hm, Array.getElem?_eq_getElem hm, e]
    · rw [List.getElem?_eq_none (by simp; omega), List.getElem?_eq_none (by simp [hs]; omega)]
theorem flat_one {vs : List Value} (h : vs.all oneCell = true) (n : Nat) : ((List.replicate n vs).flatten).all oneCell = true := by
  rw [List.all_eq_true] at h ⊢
  intro x hx
  rw [List.mem_flatten] at hx
  obtain ⟨l, h1, h2⟩ := hx
  rw [List.mem_replicate] at h1
  exact h x (h1.2 ▸ h2)

/-! ### Building -/
theorem fill_one {off : Nat} : ∀ (vs : List Value) (j : Nat) (c : Array Value), off + j + vs.length ≤ c.size → ((vs.zipIdx j).foldl (fun cs (p : Value × Nat) => cs.setIfInBounds (off + p.2) p.1) c).toList = overwrite c.toList (off + j) vs
  | [], j, c, _ => by simp [overwrite_nil]
  | v :: vs, j, c, h => by
    simp only [List.length_cons] at h
    rw [List.zipIdx_cons, List.foldl_cons, fill_one vs (j + 1) _ (by simp; omega), overwrite_cons _ _ _ _ (by simp; omega)]
    simp [Nat.add_assoc]
def PVs (P : Program) (Z : Nat → Prop) (H : IH) (M : Nat → Option (Nat × PO)) (ps : List (Nat × PV)) (qs : List (Nat × Value)) : Prop := ps.map (·.1) = qs.map (·.1) ∧ VRL P Z H M (ps.map (·.2)) (qs.map (·.2))
theorem pfill_ok {place : Nat → Option (Nat × Nat)} : ∀ {ps : List (Nat × PV)} {qs : List (Nat × Value)} {cs r : List PV} {vs : Array Value}, PVs P Z H M ps qs → VRL P Z H M cs vs.toList → vs.toList.all oneCell = true → pfill place cs ps = some r →
    ∃ ws, Instr.fill place vs qs = some ws ∧ VRL P Z H M r ws.toList ∧ ws.toList.all oneCell = true ∧ r.length = cs.length ∧ qs.all (fun p => notTuple p.2) = true ∧ ∀ k, noKL k cs = true → noKL k (ps.map (·.2)) = true → noKL k r = true
  | [], qs, cs, r, vs, hq, hv, h1, h => by
    have : qs = [] := by
      have := hq.1
      simpa using this.symm
    subst this
    simp only [pfill, Option.some.injEq] at h
    subst h
    exact ⟨vs, rfl, hv, h1, rfl, rfl, fun k h _ => h⟩
  | (i, x) :: ps, qs, cs, r, vs, hq, hv, h1, h => by
    cases qs with
    | nil => have := hq.1; simp at this
    | cons q qs =>
      obtain ⟨j, v⟩ := q
      have e1 := hq.1
      simp only [List.map_cons, List.cons.injEq] at e1
      obtain ⟨rfl, e1⟩ := e1
      have e2 := hq.2
      simp only [List.map_cons] at e2
      obtain ⟨v', vs', e3, e4, e5⟩ := e2.uncons
      simp only [List.cons.injEq] at e3
      obtain ⟨rfl, rfl⟩ := e3
      unfold pfill at h
      split at h
      · rename_i off size hpl
        cases hb : (Nat.beq (pcells x).length size && (Nat.ble (off + size) cs.length && (pnt x && (pcells x).all pone))) with
        | false => rw [hb] at h; cases h
        | true =>
          rw [hb] at h
          simp only [Bool.and_eq_true] at hb
          obtain ⟨b1, b2, b3, b4⟩ := hb
          have l1 := Nat.eq_of_beq_eq_true b1
          have l2 := Nat.le_of_ble_eq_true b2
          obtain ⟨c1, c2⟩ := e4.cells b3
          have c3 := c1.one b4
          have hsz : v.cells.size = size := by rw [← l1, c1.len]; simp
          have hcl := hv.len
          have hvl : off + v.cells.toList.length ≤ vs.size := by simp only [Array.length_toList] at hcl ⊢; omega
          have hfill : (v.cells.zipIdx.foldl (fun cs (c, j) => cs.setIfInBounds (off + j) c) vs).toList = overwrite vs.toList off v.cells.toList := by
            have := fill_one (off := off) v.cells.toList 0 vs (by simpa using hvl)
            rw [← Array.foldl_toList, Array.toList_zipIdx]
            simpa using this
          obtain ⟨ws, r1, r2, r3, r4, r5, r6⟩ := pfill_ok (vs := v.cells.zipIdx.foldl (fun cs (c, j) => cs.setIfInBounds (off + j) c) vs) ⟨e1, e5⟩ (by rw [hfill]; exact hv.over c1 off) (by rw [hfill]; exact over_one h1 c3) h
          refine ⟨ws, ?_, r2, r3, by rw [r4, over_len (by omega)], by simp only [List.all_cons, c2, r5, Bool.and_self], fun k k1 k2 => ?_⟩
          · unfold Instr.fill
            simp only [hpl]
            have hcd : ¬ (decide (v.cells.size ≠ size) || decide (off + v.cells.size > vs.size)) = true := by
              simp only [Array.length_toList] at hvl
              simp [hsz]; omega
            rw [if_neg hcd]
            exact r1
          · simp only [List.map_cons, noKL, Bool.and_eq_true] at k2
            refine r6 k ?_ k2.2
            unfold pover
            rw [noKL_app, noKL_app, noKL_take k1, noK_cells k2.1, noKL_drop k1]; rfl
      · cases h
theorem pvs_of {env : List PV} {ienv : Env} (he : VRL P Z H M env ienv) : ∀ (ps : List (Nat × Operand)), PVs P Z H M (ps.map fun p => (p.1, pval env p.2)) (ps.map fun p => (p.1, ienv.val p.2))
  | [] => ⟨rfl, .nil⟩
  | p :: ps => by
    obtain ⟨h1, h2⟩ := pvs_of he ps
    exact ⟨by simp only [List.map_cons, h1], by simp only [List.map_cons]; exact .cons (pval_ok he p.2) h2⟩
theorem pbuild_ok {t : TypeId} {ps : List (Nat × PV)} {qs : List (Nat × Value)} {x : PV} (hq : PVs P Z H M ps qs) (h : pbuild P t ps = some x) : ∃ v, ibuild P t qs = some v ∧ VR P Z H M x v := by
  unfold pbuild at h
  split at h
  · rename_i z hz
    obtain ⟨zv, z1, z2, z3, _⟩ := zc_ok (Z := Z) (H := H) (M := M) hz
    cases hb : buildOk P t with
    | false => rw [hb] at h; cases h
    | true =>
      rw [hb] at h
      simp only [cond_true] at h
      split at h
      · rename_i cs hf
        cases h
        obtain ⟨ws, r1, r2, r3, r4, r5, r6⟩ := pfill_ok hq z2 z3 hf
        refine ⟨.agg ws, ?_, ?_⟩
        · unfold ibuild
          simp only [z1]
          unfold buildOk at hb
          unfold placeT at r1
          split at hb
          · rename_i fields hu
            simp only [hu] at r1 ⊢
            obtain ⟨places, hpl⟩ := Option.isSome_iff_exists.1 hb
            simp only [hpl, r5, if_true]
            have : (fun (i : Nat) => places.toArray[i]?) = (fun (i : Nat) => match fields[i]? with | some (f : Field) => (szT P f.type).map fun s => (f.offset, s) | none => none) := by
              funext i
              rw [List.getElem?_toArray]
              have key : ∀ (l : List Field) (pl : List (Nat × Nat)) (i : Nat), l.mapM (fun (f : Field) => (szT P f.type).map fun s => (f.offset, s)) = some pl → pl[i]? = (match l[i]? with | some (f : Field) => (szT P f.type).map fun s => (f.offset, s) | none => none) := by
                intro l
                induction l with
                | nil => intro pl i h; simp at h; subst h; simp
                | cons f l ih =>
                  intro pl i h
                  rw [List.mapM_cons] at h
                  cases hs : szT P f.type with
                  | none => rw [hs] at h; cases h
                  | some s =>
                    rw [hs] at h
                    cases hm : l.mapM (fun (f : Field) => (szT P f.type).map fun s => (f.offset, s)) with
                    | none => rw [hm] at h; cases h
                    | some pl' =>
                      rw [hm] at h
                      have h' : some ((f.offset, s) :: pl') = some pl := h
                      cases h'
                      cases i with
                      | zero => simp [hs]
                      | succ i => simpa using ih pl' i hm
              have := key fields.toList places i hpl
              rw [this]
              simp
            have r1' : Instr.fill (fun i => places.toArray[i]?) zv.cells qs = some ws := by rw [this]; exact r1
            rw [r1']; rfl
          · rename_i n el hu
            simp only [hu] at r1 ⊢
            obtain ⟨s, hs⟩ := Option.isSome_iff_exists.1 hb
            simp only [hs, Option.map_some] at r1 ⊢
            simp only [r5, if_true, r1]; rfl
          · cases hb
        · have := r2.toA
          simpa using this
      · cases h
  · cases h
theorem pnew_inv {k : Nat} {ob : PO} {v x : PV} {ph ph' : PHp} (h : pnew k ob v ph = some (x, ph')) : x = v ∧ ph' = (k, ob) :: ph := by
  unfold pnew at h; cases h; exact ⟨rfl, rfl⟩
/-- a new object, as an operation makes it -/
theorem new_ok {k : Nat} {ob : PO} {x : PV} {u : Value} {vs : List Value} {s : Option Step1} (hp : Hp P Z H (own m ph)) (hb : H.base ≤ H.size) (hn : noKH k ph = true) (hc : noKL k ob.cs = true) (hr : VRL P Z H (own m ph) ob.cs vs) (h1 : vs.all oneCell = true)
    (hs : s = some (.val u (H.push (.cells vs.toArray ob.el (cond ob.gr roomFz (0, 0))))))
    (hx : ∀ H' M', M' k = some (H.size, ob) → VR P Z H' M' x u) : Res P Z H m ph (fun j => j == k) x ((k, ob) :: ph) s := by
  obtain ⟨r1, r2, r3⟩ := hp.push hn hc hr h1 hb
  exact ⟨u, _, Z, _, hs, r1, hx _ _ own_new, r2, r3⟩
theorem own_is {H' : IH} {M' : Nat → Option (Nat × PO)} {k b t s : Nat} {ob : PO} (hM : M' k = some (b, ob)) (hs : szT P ob.el = some s) (h0 : 0 < s) (hl : ob.cs.length = t * s) (hg : ob.gr = true → t ≠ 0) :
    VR P Z H' M' (.own k t 0 t) (.slice (some ⟨b, 0, cond ob.gr (some ob.el) none⟩) t t) := by
  refine .own rfl fun b' ob' h => ?_
  rw [hM] at h; cases h
  exact ⟨s, hs, h0, by omega, fun _ => .inr ⟨hg, by omega, .inl rfl, by simp⟩⟩
theorem ref_is {H' : IH} {M' : Nat → Option (Nat × PO)} {k b off : Nat} {ob : PO} (hM : M' k = some (b, ob)) (hg : ob.gr = true → ob.cs.length ≠ 0) : VR P Z H' M' (.ref k ob.cs.length off) (.pointer (some ⟨b, off, none⟩)) := by
  refine .ref rfl fun b' ob' h => ?_
  rw [hM] at h; cases h
  exact ⟨Nat.le_refl _, fun _ => ⟨rfl, hg⟩⟩
theorem toArr (c : Array Value) : c.toList.toArray = c := by simp

theorem palloc_ok {el : TypeId} {k : Nat} {x : PV} {ph' : PHp} (hp : Hp P Z H (own m ph)) (hb : H.base ≤ H.size) (hn : noKH k ph = true) (h : palloc P el k ph = some (x, ph')) : Res P Z H m ph (fun j => j == k) x ph' (ialloc P el H) := by
  unfold palloc at h
  split at h
  · rename_i z hz
    obtain ⟨zv, z1, z2, z3, z4⟩ := zc_ok (Z := Z) (H := H) (M := own m ph) hz
    obtain ⟨rfl, rfl⟩ := pnew_inv h
    refine new_ok hp hb hn (by rw [z4]; exact noK_fvv _ _) z2 z3 (u := .pointer (some ⟨H.size, 0, none⟩)) ?_ fun H' M' hM => ref_is hM fun h => by cases h
    unfold ialloc
    simp only [z1, toArr]; rfl
  · cases h
theorem pbox_ok {el : TypeId} {k : Nat} {v x : PV} {u : Value} {ph' : PHp} (hp : Hp P Z H (own m ph)) (hb : H.base ≤ H.size) (hn : noKH k ph = true) (hv : VR P Z H (own m ph) v u) (hk : noK k v = true) (h : pbox el v k ph = some (x, ph')) : Res P Z H m ph (fun j => j == k) x ph' (ibox el u H) := by
  unfold pbox at h
  cases hc : (pnt v && (pcells v).all pone) with
  | false => rw [hc] at h; cases h
  | true =>
    rw [hc] at h
    rw [Bool.and_eq_true] at hc
    obtain ⟨rfl, rfl⟩ := pnew_inv h
    obtain ⟨c1, c2⟩ := hv.cells hc.1
    refine new_ok hp hb hn (noK_cells hk) c1 (c1.one hc.2) (u := .pointer (some ⟨H.size, 0, none⟩)) ?_ fun H' M' hM => ref_is hM fun h => by cases h
    unfold ibox
    rw [if_pos c2]
    simp only [toArr]; rfl
theorem elemT_inv {t el : TypeId} (h : elemT P t = some el) : P.underlying t = some (.slice el) := by
  unfold elemT at h
  split at h
  · rename_i e he; cases h; exact he
  · cases h
theorem pbuildSlice_ok {t : TypeId} {len k : Nat} {ps : List (Nat × PV)} {qs : List (Nat × Value)} {x : PV} {ph' : PHp} (hp : Hp P Z H (own m ph)) (hb : H.base ≤ H.size) (hn : noKH k ph = true) (hq : PVs P Z H (own m ph) ps qs) (hk : noKL k (ps.map (·.2)) = true)
    (h : pbuildSlice P t len ps k ph = some (x, ph')) : Res P Z H m ph (fun j => j == k) x ph' (ibuildSlice P t len qs H) := by
  unfold pbuildSlice at h
  split at h
  · rename_i el he
    split at h
    · rename_i s z hs hz
      obtain ⟨zv, z1, z2, z3, z4⟩ := zc_ok (Z := Z) (H := H) (M := own m ph) hz
      cases hc : (Nat.beq z.length (s + 1) && Nat.ble (len * (s + 1)) 65536) with
      | false => rw [hc] at h; cases h
      | true =>
        rw [hc] at h
        simp only [cond_true] at h
        rw [Bool.and_eq_true] at hc
        have l1 := Nat.eq_of_beq_eq_true hc.1
        have l2 := Nat.le_of_ble_eq_true hc.2
        split at h
        · rename_i cs hf
          obtain ⟨rfl, rfl⟩ := pnew_inv h
          have hrow := z2.row len
          have hz1 : zv.cells.toList.length = s + 1 := by rw [← z2.len, l1]
          have zr := zeroRow_eq (P := P) (n := len) z1 hz1
          obtain ⟨ws, r1, r2, r3, r4, r5, r6⟩ := pfill_ok (vs := ((List.replicate len zv.cells.toList).flatten).toArray) hq (by simpa using hrow) (by simpa using flat_one z3 len) hf
          have hlen : cs.length = len * (s + 1) := by rw [r4, prow_len, l1]
          refine new_ok (u := .slice (some ⟨H.size, 0, none⟩) len len) hp hb hn (r6 k (noKL_row (by rw [z4]; exact noK_fvv _ _) _) hk) r2 r3 ?_ fun H' M' hM => own_is hM hs (by omega) hlen (fun h => by cases h)
          unfold ibuildSlice
          simp only [elemT_inv he, hs]
          rw [if_pos (by simp only [r5, Bool.and_true, decide_eq_true_eq]; exact l2), zr]
          simp only [r1, toArr]; rfl
        · cases h
    · cases h
  · cases h
theorem mkN_inv {z : Int} {n : Nat} (h : mkN z = some n) : z = (n : Int) ∧ n ≤ 65536 := by
  unfold mkN at h
  split at h
  · rename_i hc; cases h; omega
  · cases h
theorem smallT_inv {el : TypeId} (h : smallT P el = true) : ∃ i, P.info? el = some i ∧ i.bytes ≤ 4096 ∧ ((zeroT P el).map (·.cells.size)) = some i.size := by
  unfold smallT at h
  split at h
  · rename_i i hi
    rw [Bool.and_eq_true] at h
    refine ⟨i, hi, of_decide_eq_true h.1, ?_⟩
    have h2 := h.2
    split at h2
    · rename_i z hz; rw [hz]; simp [Nat.eq_of_beq_eq_true h2]
    · cases h2
  · cases h
theorem pmakeSlice_ok {t : TypeId} {k : Nat} {l c x : PV} {vl vc : Value} {ph' : PHp} (hp : Hp P Z H (own m ph)) (hb : H.base ≤ H.size) (hn : noKH k ph = true) (h1 : VR P Z H (own m ph) l vl) (h2 : VR P Z H (own m ph) c vc) (h : pmakeSlice P t l c k ph = some (x, ph')) :
    Res P Z H m ph (fun j => j == k) x ph' (imakeSlice P t vl vc H) := by
  unfold pmakeSlice at h
  split at h
  · rename_i el k1 zl k2 zm he
    have e1 : vl = .int k1 zl := pl_ok h1 rfl
    have e2 : vc = .int k2 zm := pl_ok h2 rfl
    subst e1 e2
    cases hd : decide (zl = zm) with
    | false => rw [hd] at h; cases h
    | true =>
      rw [hd] at h
      simp only [cond_true] at h
      have hd := of_decide_eq_true hd
      subst hd
      split at h
      · rename_i n s z hmk hs hz
        obtain ⟨zv, z1, z2, z3, z4⟩ := zc_ok (Z := Z) (H := H) (M := own m ph) hz
        obtain ⟨rfl, hle⟩ := mkN_inv hmk
        cases hc : (smallT P el && Nat.beq z.length (s + 1)) with
        | false => rw [hc] at h; cases h
        | true =>
          rw [hc] at h
          rw [Bool.and_eq_true] at hc
          obtain ⟨rfl, rfl⟩ := pnew_inv h
          have l1 := Nat.eq_of_beq_eq_true hc.2
          have hz1 : zv.cells.toList.length = s + 1 := by rw [← z2.len, l1]
          obtain ⟨i, i1, i2, i3⟩ := smallT_inv hc.1
          have isz : i.size = s + 1 := by
            unfold szT at hs
            rw [i1] at hs
            simpa using hs
          refine new_ok (u := .slice (some ⟨H.size, 0, none⟩) n n) hp hb hn (noKL_row (by rw [z4]; exact noK_fvv _ _) _) (z2.row n) (flat_one z3 n) ?_ fun H' M' hM => own_is hM hs (by omega) (by rw [prow_len, l1]) (fun h => by cases h)
          unfold imakeSlice
          simp only [elemT_inv he, i1]
          rw [if_pos]
          · simp only [Int.toNat_natCast, isz, zeroRow_eq (P := P) (n := n) z1 hz1]; rfl
          · simp only [Bool.and_eq_true, decide_eq_true_eq]
            have : i.bytes * n ≤ 4096 * 65536 := Nat.mul_le_mul i2 hle
            have e : (i.bytes : Int) * (n : Int) = ((i.bytes * n : Nat) : Int) := by simp
            refine ⟨⟨⟨by omega, by omega⟩, by rw [e]; omega⟩, by omega⟩
      · cases h
  · cases h
end Go.Idl
