/- Operations of the ideal interpreter against the model's own, first part. Conditions: none. -/
import Derived.Test.YtpdlblofcdcikaaGreatDoorIdlA
import Derived.Laws.Cells
import Derived.Laws.Entries
set_option linter.unusedSimpArgs false
set_option linter.unusedVariables false
namespace Go.Idl
variable {P : Program}

theorem szT_cells {t : TypeId} {n : Nat} (h : szT P t = some n) : P.cellsOf t = n := by
  unfold szT at h
  unfold Program.cellsOf
  rw [h]; rfl
theorem szT_info {t : TypeId} {n : Nat} (h : szT P t = some n) : ∃ i, P.info? t = some i ∧ i.size = n := by
  unfold szT at h
  cases hi : P.info? t with
  | none => rw [hi] at h; cases h
  | some i => rw [hi] at h; simp at h; exact ⟨i, rfl, h⟩
theorem run_size {t : TypeId} {n : Nat} (h : szT P t = some n) (w : World) : (sizeOf t).run P w = .ok n w := by
  obtain ⟨i, hi, hs⟩ := szT_info h
  simp [sizeOf, typeInfo, hi, hs]
theorem run_zero {t : TypeId} {z : Value} (h : zeroT P t = some z) (w : World) : (zeroValue t).run P w = .ok z w := by
  unfold zeroT at h
  cases hi : P.info? t with
  | none => rw [hi] at h; cases h
  | some i => rw [hi] at h; simp at h; simp [zeroValue, typeInfo, hi, h]
theorem run_agg {t : TypeId} {b : Bool} (h : aggT P t = some b) (w : World) : (isAgg t).run P w = .ok b w := by
  unfold aggT at h
  cases hu : P.underlying t with
  | none => rw [hu] at h; cases h
  | some d =>
    rw [hu] at h
    cases d <;> simp at h <;> subst h <;> simp [isAgg, run_underlying hu]

theorem add_addr (r o n : Nat) : (⟨r, o, none⟩ : Addr).add n = ⟨r, o + n, none⟩ := by
  unfold Addr.add; split <;> simp_all

theorem aget {c : Array Value} {i : Nat} : c.toList[i]? = c[i]? := by simp

/-! ### Reading -/
theorem load_inv {H : IH} {b i : Nat} {v : Value} (h : H.load b i = some v) : ∃ c el fz, H.get b = some (.cells c el fz) ∧ c[i]? = some v := by
  unfold IH.load at h
  split at h
  · rename_i c el fz hg; exact ⟨c, el, fz, hg, h⟩
  · cases h
theorem loads_inv {H : IH} {b i n : Nat} {l : List Value} (h : H.loads b i n = some l) : ∃ c el fz, H.get b = some (.cells c el fz) ∧ i + n ≤ c.size ∧ l = (c.toList.drop i).take n := by
  unfold IH.loads at h
  split at h
  · rename_i c el fz hg
    split at h
    · rename_i hle; cases h; exact ⟨c, el, fz, hg, hle, rfl⟩
    · cases h
  · cases h

theorem cell_rel {f : Inj} {H : IH} {w : World} {b i : Nat} {e : Emb} {v : Value} (hR : Rel P f H w) (hb : f b = some e) (h : H.load b i = some v) :
    ∃ v', w.cell? ⟨e.r, i + e.shift, none⟩ = some v' ∧ VRel P f v v' := by
  obtain ⟨c, el, fz, hg, hc⟩ := load_inv h
  obtain ⟨c', el', fz', hr, _, _, hcv, _, _⟩ := hR.obj b e _ hb hg
  obtain ⟨v', h1, h2⟩ := hcv i v hc
  exact ⟨v', by simp [World.cell?, hr, Nat.add_comm i e.shift, h1], h2⟩

theorem cells_rel {f : Inj} {H : IH} {w : World} {b i n : Nat} {e : Emb} {l : List Value} (hR : Rel P f H w) (hb : f b = some e) (h : H.loads b i n = some l) :
    ∃ l', VRelL P f l l' ∧ l'.length = n ∧ ∀ j v, l'[j]? = some v → w.cell? ((⟨e.r, i + e.shift, none⟩ : Addr).add j) = some v := by
  obtain ⟨c, el, fz, hg, hle, rfl⟩ := loads_inv h
  obtain ⟨c', el', fz', hr, _, hsz, hcv, _, _⟩ := hR.obj b e _ hb hg
  refine ⟨(c'.toList.drop (e.shift + i)).take n, ⟨?_, ?_⟩, ?_, ?_⟩
  · simp; omega
  · intro j v v' h1 h2
    simp only [List.getElem?_take, List.getElem?_drop] at h1 h2
    split at h1
    · rename_i hj
      rw [if_pos hj] at h2
      rw [aget] at h1 h2
      obtain ⟨u, hu1, hu2⟩ := hcv (i + j) v h1
      rw [show e.shift + (i + j) = e.shift + i + j by omega] at hu1
      rw [hu1] at h2; cases h2; exact hu2
    · cases h1
  · simp; omega
  · intro j v h1
    simp only [List.getElem?_take, List.getElem?_drop] at h1
    split at h1
    · rw [aget] at h1
      rw [add_addr]
      simp only [World.cell?, hr]
      rw [show i + e.shift + j = e.shift + i + j by omega]
      simpa using h1
    · cases h1

theorem VRel.ptr_inv {f : Inj} {b o : Nat} {v' : Value} (h : VRel P f (.pointer (some ⟨b, o, none⟩)) v') : ∃ e, f b = some e ∧ v' = .pointer (some ⟨e.r, o + e.shift, none⟩) := by
  cases h with
  | base _ hp => have hp' : false = true := hp; cases hp'
  | ptr h => exact ⟨_, h, rfl⟩

theorem sim_loadAt {f : Inj} {H : IH} {w : World} {t : TypeId} {a a' v : Value} (hR : Rel P f H w) (h : iloadAt P t a H = some v) (ha : VRel P f a a') :
    ∃ v', (Instr.loadAt t a').run P w = .ok v' w ∧ VRel P f v v' := by
  unfold iloadAt at h
  split at h
  · rename_i b i
    obtain ⟨e, hb, rfl⟩ := ha.ptr_inv
    split at h
    · rename_i hag
      split at h
      · rename_i n hn
        split at h
        · rename_i l hl
          cases h
          obtain ⟨l', h1, h2, h3⟩ := cells_rel hR hb hl
          have hload := run_loadCells_list (P := P) w ⟨e.r, i + e.shift, none⟩ l' h3
          rw [h2] at hload
          refine ⟨.agg l'.toArray, ?_, .of_agg (by simpa using h1)⟩
          simp [Instr.loadAt, Instr.sureAddr, loadVar, run_agg hag, run_size hn, hload]
        · cases h
      · cases h
    · rename_i hag
      obtain ⟨v', h1, h2⟩ := cell_rel hR hb h
      refine ⟨v', ?_, h2⟩
      simp [Instr.loadAt, Instr.sureAddr, loadVar, run_agg hag, h1]
    · cases h
  · cases h

/-! ### Writing -/
theorem put_put (w : World) (r : Nat) (o o' : Obj) : World.put (World.put w r o) r o' = World.put w r o' := by
  unfold World.put
  congr 1
  simp

theorem setCell_put (w : World) (r i : Nat) (cur : Array Value) (el : TypeId) (fz : Nat × Nat) (v : Value) (h : w.heap[r]? = some (.cells cur el fz)) :
    w.setCell ⟨r, i, none⟩ v = World.put w r (.cells (cur.setIfInBounds i v) el fz) := by
  have hlt : r < w.heap.size := (Array.getElem?_eq_some_iff.1 h).1
  have hv : w.heap[r] = .cells cur el fz := (Array.getElem?_eq_some_iff.1 h).2
  unfold World.setCell World.put
  congr 1
  apply Array.ext_getElem?
  intro j
  rw [Array.getElem?_modify]
  by_cases hj : r = j
  · subst hj; simp [hlt, hv]
  · simp only [hj, if_false]; rw [Array.getElem?_setIfInBounds_ne hj]

theorem overwrite_nil (l : List Value) (i : Nat) : overwrite l i [] = l := by simp [overwrite]
theorem overwrite_cons (l : List Value) (i : Nat) (v : Value) (vs : List Value) (h : i < l.length) : overwrite l i (v :: vs) = overwrite (l.set i v) (i + 1) vs := by
  unfold overwrite
  apply List.ext_getElem?
  intro j
  simp only [List.getElem?_append, List.getElem?_take, List.getElem?_drop, List.getElem?_set, List.length_take, List.length_set, List.length_cons, List.length_append, List.getElem?_cons]
  by_cases h1 : j < i
  · have a1 : j < min i l.length := by omega
    have a2 : j < min i l.length + (vs.length + 1) := by omega
    have a3 : j < min (i + 1) l.length := by omega
    have a4 : j < min (i + 1) l.length + vs.length := by omega
    have a5 : i ≠ j := by omega
    simp [a1, a2, a3, a4, a5, h1]
    omega
  · by_cases h2 : j = i
    · subst h2
      have a1 : ¬ j < min j l.length := by omega
      have a2 : j < min j l.length + (vs.length + 1) := by omega
      have a3 : j < min (j + 1) l.length := by omega
      have a4 : j < min (j + 1) l.length + vs.length := by omega
      have a6 : j - min j l.length = 0 := by omega
      simp [a1, a2, a3, a4, a6, h]
    · have a1 : ¬ j < min i l.length := by omega
      have a3 : ¬ j < min (i + 1) l.length := by omega
      have e1 : j - min i l.length = (j - min (i + 1) l.length) + 1 := by omega
      have a5 : ¬ i = j := by omega
      by_cases h3 : j < min i l.length + (vs.length + 1)
      · have a4 : j < min (i + 1) l.length + vs.length := by omega
        simp only [a1, a3, h3, a4, if_true, if_false, e1]
        simp
      · have a4 : ¬ j < min (i + 1) l.length + vs.length := by omega
        simp only [a1, a3, h3, a4, if_false]
        have e2 : i + (vs.length + 1) + (j - (min i l.length + (vs.length + 1))) = i + 1 + vs.length + (j - (min (i + 1) l.length + vs.length)) := by omega
        rw [e2]
        have a7 : ¬ i = i + 1 + vs.length + (j - (min (i + 1) l.length + vs.length)) := by omega
        simp [a7]
theorem overwrite_length (l : List Value) (i : Nat) (vs : List Value) (h : i + vs.length ≤ l.length) : (overwrite l i vs).length = l.length := by
  simp [overwrite]; omega

theorem oneCell_eq (v : Value) : v.oneCell' = oneCell v := by cases v <;> rfl

theorem run_storeCells (r o : Nat) (el : TypeId) (fz : Nat × Nat) : ∀ (vs : List Value) (i : Nat) (cur : Array Value) (w : World), w.heap[r]? = some (.cells cur el fz) →
    (∀ j, j < cur.size → ¬(fz.1 ≤ j ∧ j < fz.2)) → o + i + vs.length ≤ cur.size → (∀ v ∈ vs, oneCell v = true) →
    (storeCells ⟨r, o, none⟩ vs i).run P w = .ok () (World.put w r (.cells (overwrite cur.toList (o + i) vs).toArray el fz))
  | [], i, cur, w, hg, _, _, _ => by
    have e : World.put w r (.cells (overwrite cur.toList (o + i) []).toArray el fz) = w := by
      rw [overwrite_nil]
      unfold World.put
      have hlt : r < w.heap.size := (Array.getElem?_eq_some_iff.1 hg).1
      have hv : w.heap[r] = .cells cur el fz := (Array.getElem?_eq_some_iff.1 hg).2
      have : w.heap.setIfInBounds r (.cells cur.toList.toArray el fz) = w.heap := by
        apply Array.ext_getElem?
        intro j
        by_cases hj : r = j
        · subst hj; simp [hlt, hv]
        · rw [Array.getElem?_setIfInBounds_ne hj]
      rw [this]
    rw [e]; rfl
  | v :: vs, i, cur, w, hg, hfz, hl, h1 => by
    have hi : o + i < cur.size := by simp at hl; omega
    have hlt : r < w.heap.size := (Array.getElem?_eq_some_iff.1 hg).1
    have hcell : w.cell? ⟨r, o + i, none⟩ = some cur[o + i] := by simp [World.cell?, hg, hi]
    have hfro : w.frozen? ⟨r, o + i, none⟩ = false := by
      have := hfz (o + i) hi
      obtain ⟨lo, hi'⟩ := fz
      simp only [World.frozen?, hg]
      simp only at this
      rw [Bool.and_eq_false_iff]
      by_cases hx : lo ≤ o + i
      · right; simp; omega
      · left; simp; omega
    have hst : (store ((⟨r, o, none⟩ : Addr).add i) v).run P w = .ok () (World.put w r (.cells (cur.setIfInBounds (o + i) v) el fz)) := by
      rw [add_addr, run_store P w _ v _ (by rw [oneCell_eq]; exact h1 v (by simp)), hcell]
      simp [hfro, setCell_put w r (o + i) cur el fz v hg]
    have ih := run_storeCells r o el fz vs (i + 1) (cur.setIfInBounds (o + i) v) (World.put w r (.cells (cur.setIfInBounds (o + i) v) el fz))
      (by rw [heap_put hlt]; simp) (fun j hj => hfz j (by simpa using hj)) (by simp at hl ⊢; omega) (fun x hx => h1 x (by simp [hx]))
    simp only [storeCells, Sem.run_bind, hst, Result.andThen_ok, ih, put_put]
    rw [overwrite_cons _ _ _ _ (by simpa using hi)]
    simp [Array.toList_setIfInBounds, Nat.add_assoc]

theorem stores_inv {H H' : IH} {b i : Nat} {vs : List Value} (h : H.stores b i vs = some H') : ∃ c el fz, H.get b = some (.cells c el fz) ∧ i + vs.length ≤ c.size ∧ freeFz fz = true ∧ H.base ≤ b ∧
    (∀ v ∈ vs, oneCell v = true) ∧ H' = H.put b (.cells (overwrite c.toList i vs).toArray el fz) := by
  unfold IH.stores at h
  split at h
  · rename_i c el fz hg
    split at h
    · rename_i hc
      cases h
      simp only [Bool.and_eq_true, decide_eq_true_eq, List.all_eq_true] at hc
      exact ⟨c, el, fz, hg, hc.1.1.1, hc.1.1.2, hc.1.2, hc.2, rfl⟩
    · cases h
  · cases h

theorem VRel.oneCell {f : Inj} {v v' : Value} (h : VRel P f v v') (h1 : oneCell v = true) : oneCell v' = true := by
  cases h <;> first | rfl | exact h1 | (simp [undef, unk, Idl.oneCell] at h1; done) | (simp [Idl.oneCell] at h1)

theorem ow_get (l : List Value) (i : Nat) (vs : List Value) (h : i + vs.length ≤ l.length) (j : Nat) :
    (overwrite l i vs)[j]? = if j < i then l[j]? else if j < i + vs.length then vs[j - i]? else l[j]? := by
  unfold overwrite
  simp only [List.getElem?_append, List.getElem?_take, List.getElem?_drop, List.length_take, List.length_append]
  by_cases h1 : j < i
  · simp [h1, show j < min i l.length by omega, show j < min i l.length + vs.length by omega]
  · by_cases h2 : j < i + vs.length
    · simp [h1, h2, show j < min i l.length + vs.length by omega, show ¬ j < min i l.length by omega, show j - min i l.length = j - i by omega]
    · simp only [h1, h2, if_false, show ¬ j < min i l.length + vs.length by omega]
      congr 1; omega

/-- writing a row of cells -/
theorem sim_stores {f : Inj} {H H' : IH} {w : World} {b i : Nat} {e : Emb} {vs vs' : List Value} (hR : Rel P f H w) (hb : f b = some e) (h : H.stores b i vs = some H') (hv : VRelL P f vs vs') :
    ∃ w', (storeCells ⟨e.r, i + e.shift, none⟩ vs').run P w = .ok () w' ∧ Rel P f H' w' ∧ Grow f H w f H' w' ∧ Keep f H H' := by
  obtain ⟨c, el, fz, hg, hle, hfree, hbase, h1, rfl⟩ := stores_inv h
  obtain ⟨c', el', fz', hr, hN, hsz, hcv, hfr, hex⟩ := hR.obj b e _ hb hg
  obtain ⟨hro, hel, hnf⟩ := hfr hfree
  have hlen : vs'.length = vs.length := hv.1.symm
  have hlt : e.r < w.heap.size := hR.bound b e hb
  have hrun := run_storeCells (P := P) e.r (i + e.shift) el' fz' vs' 0 c' w hr hnf (by omega) (fun v hv' => by
    obtain ⟨j, hj, rfl⟩ := List.mem_iff_getElem.1 hv'
    have hj2 : j < vs.length := by omega
    exact (hv.2 j vs[j] vs'[j] (List.getElem?_eq_getElem hj2) (List.getElem?_eq_getElem hj)).oneCell (h1 _ (List.getElem_mem hj2)))
  simp only [Nat.add_zero] at hrun
  refine ⟨_, hrun, ?_⟩
  have hO : ORel P f e (.cells (overwrite c.toList i vs).toArray el fz) (some (.cells (overwrite c'.toList (i + e.shift) vs').toArray el' fz')) := by
    have l1 : (overwrite c.toList i vs).length = c.size := by rw [overwrite_length _ _ _ (by simpa using hle)]; simp
    have l2 : (overwrite c'.toList (i + e.shift) vs').length = c'.size := by rw [overwrite_length _ _ _ (by simp; omega)]; simp
    refine ⟨_, _, _, rfl, by simpa [l2] using hN, by simp [l1, l2]; exact hsz, ?_, fun hf => ⟨hro, hel, by simpa [l2] using hnf⟩, fun hf => by simpa [l1, l2] using hex hf⟩
    intro j v hj
    simp only [List.getElem?_toArray] at hj ⊢
    rw [ow_get _ _ _ (by simpa using hle)] at hj
    rw [ow_get _ _ _ (by simp; omega)]
    by_cases a1 : j < i
    · rw [if_pos a1] at hj
      rw [if_pos (by omega), aget]
      rw [aget] at hj
      exact hcv j v hj
    · rw [if_neg a1] at hj
      rw [if_neg (by omega)]
      by_cases a2 : j < i + vs.length
      · rw [if_pos a2] at hj
        rw [if_pos (by omega), show e.shift + j - (i + e.shift) = j - i by omega]
        obtain ⟨u, hu1, hu2⟩ := hv.get hj
        exact ⟨u, hu1, hu2⟩
      · rw [if_neg a2] at hj
        rw [if_neg (by omega), aget]
        rw [aget] at hj
        exact hcv j v hj
  exact Rel.put hR hb hg rfl hro hO (fun x => heap_put hlt) (by simp [World.put])

theorem sim_storeAt {f : Inj} {H H' : IH} {w : World} {t : TypeId} {a a' v v' : Value} (hR : Rel P f H w) (h : istoreAt P t a v H = some H') (ha : VRel P f a a') (hv : VRel P f v v') :
    ∃ w', (Instr.storeAt t a' v').run P w = .ok () w' ∧ Rel P f H' w' ∧ Grow f H w f H' w' ∧ Keep f H H' := by
  unfold istoreAt at h
  split at h
  · rename_i b i
    obtain ⟨e, hb, rfl⟩ := ha.ptr_inv
    split at h
    · rename_i hs
      have hnt : notTuple v = true := by
        cases v <;> first | rfl | skip
        obtain ⟨c, el, fz, _, _, _, _, h1, _⟩ := stores_inv h
        have := h1 _ (List.mem_singleton.2 rfl)
        simp [oneCell] at this
      have hc := hv.cells hnt
      obtain ⟨w', h1, h2⟩ := sim_stores hR hb h hc
      refine ⟨w', ?_, h2⟩
      have hsz : v'.cells.size = v.cells.size := by have := hc.1; simpa using this.symm
      simp [Instr.storeAt, Instr.sureAddr, storeVar, run_size hs, hsz, h1]
    · cases h
  · cases h

end Go.Idl

namespace Go.Idl
variable {P : Program}

theorem zeroP_some {t : TypeId} {z : Value} (h : zeroP P t = some z) : zeroT P t = some z ∧ plainL z.cells.toList = true := by
  unfold zeroP at h
  split at h
  · rename_i z' hz
    split at h
    · rename_i hp; cases h; exact ⟨hz, hp⟩
    · cases h
  · cases h

/-- what an operation that hands back a value must come to -/
def Post (P : Program) (f : Inj) (H : IH) (w : World) (v : Value) (H' : IH) (r : Result Value) : Prop :=
  ∃ v' w' f', r = .ok v' w' ∧ Rel P f' H' w' ∧ Grow f H w f' H' w' ∧ VRel P f' v v' ∧ Keep f H H'

theorem Post.same {f : Inj} {H : IH} {w : World} {v v' : Value} {r : Result Value} (hR : Rel P f H w) (h : r = .ok v' w) (hv : VRel P f v v') : Post P f H w v H r :=
  ⟨v', w, f, h, hR, .refl _ _ _, hv, .refl _ _⟩

/-- an exact new row -/
theorem sim_new {f : Inj} {H : IH} {w : World} {c c' : Array Value} (el : TypeId) (hR : Rel P f H w) (hc : VRelL P f c.toList c'.toList) :
    ∃ e : Emb, e.r = w.heap.size ∧ e.shift = 0 ∧ Rel P (f.add H.size e) (H.push (.cells c el)) (w.alloc (.cells c' el)) ∧ Grow f H w (f.add H.size e) (H.push (.cells c el)) (w.alloc (.cells c' el)) ∧ (f.add H.size e) H.size = some e ∧
      Keep f H (H.push (.cells c el)) := by
  have hnone : f H.size = none := by
    cases hx : f H.size with
    | none => rfl
    | some y => have := hR.dom _ _ hx; omega
  have hle : f.le (f.add H.size ⟨w.heap.size, 0, c'.size, false⟩) := Inj.le_add hnone
  have hs : c.size = c'.size := by simpa using hc.1
  have hO : ORel P (f.add H.size ⟨w.heap.size, 0, c'.size, false⟩) ⟨w.heap.size, 0, c'.size, false⟩ (.cells c el) (some (.cells c' el)) := by
    refine ⟨c', el, (0, 0), rfl, rfl, by simp [hs], ?_, fun _ => ⟨rfl, rfl, fun j _ => by simp⟩, fun _ => ⟨rfl, hs⟩⟩
    intro i v hv
    obtain ⟨v', h1, h2⟩ := hc.get (i := i) (v := v) (by simpa using hv)
    exact ⟨v', by simpa using h1, h2.mono hle⟩
  obtain ⟨h1, h2⟩ := Rel.push hR rfl hO
  exact ⟨⟨w.heap.size, 0, c'.size, false⟩, rfl, rfl, h1, h2, Inj.add_same, .push⟩

theorem ptr_new {f : Inj} {b : Nat} {e : Emb} {r : Nat} (h : f b = some e) (hr : e.r = r) (hs : e.shift = 0) : VRel P f (.pointer (some ⟨b, 0, none⟩)) (.pointer (some ⟨r, 0, none⟩)) := by
  have := VRel.ptr (P := P) (o := 0) h
  rwa [hr, hs] at this
theorem sl_new {f : Inj} {b : Nat} {e : Emb} {r : Nat} (l c : Nat) (h : f b = some e) (hr : e.r = r) (hs : e.shift = 0) : VRel P f (.slice (some ⟨b, 0, none⟩) l c) (.slice (some ⟨r, 0, none⟩) l c) := by
  have := VRel.sl (P := P) (o := 0) (len := l) (cap := c) h
  rwa [hr, hs] at this

theorem sim_alloc {f : Inj} {H H' : IH} {w : World} {elem : TypeId} {v : Value} (hR : Rel P f H w) (h : ialloc P elem H = some (.val v H')) :
    Post P f H w v H' ((Instr.alloc elem true (.tuple #[])).run P w) := by
  unfold ialloc at h
  split at h
  · rename_i z hz
    obtain ⟨hz0, hp⟩ := zeroP_some hz
    cases h
    obtain ⟨e, h1, h2, h3, h4, h5, h6⟩ := sim_new (P := P) elem hR (VRelL.of_plain hp)
    refine ⟨_, _, _, ?_, h3, h4, ptr_new h5 h1 h2, h6⟩
    simp [Instr.alloc, run_zero hz0, newVar, newRow]
  · cases h

theorem sim_box {f : Inj} {H H' : IH} {w : World} {elem : TypeId} {x x' v : Value} (hR : Rel P f H w) (h : ibox elem x H = some (.val v H')) (hx : VRel P f x x') :
    Post P f H w v H' ((Instr.box elem x').run P w) := by
  unfold ibox at h
  split at h
  · rename_i hn
    cases h
    obtain ⟨e, h1, h2, h3, h4, h5, h6⟩ := sim_new (P := P) elem hR (hx.cells hn)
    refine ⟨_, _, _, ?_, h3, h4, ptr_new h5 h1 h2, h6⟩
    simp [Instr.box, newVar, newRow]
  · cases h

theorem run_mapM {α β : Type} (g : α → Sem β) (k : α → β) (w : World) : ∀ (l : List α), (∀ a ∈ l, (g a).run P w = .ok (k a) w) → (l.mapM g).run P w = .ok (l.map k) w
  | [], _ => by simp
  | a :: l, h => by
    rw [List.mapM_cons]
    simp [h a (by simp), run_mapM g k w l (fun b hb => h b (by simp [hb]))]

theorem optMapM {α β : Type} (g : α → Option β) : ∀ (l : List α) (r : List β), l.mapM g = some r → l.map g = r.map some
  | [], r, h => by simp at h; simp [h]
  | a :: l, r, h => by
    rw [List.mapM_cons] at h
    cases hg : g a with
    | none => simp [hg] at h
    | some b =>
      cases hl : l.mapM g with
      | none => simp [hg, hl] at h
      | some bs =>
        simp [hg, hl] at h
        subst h
        simp [hg, optMapM g l bs hl]

theorem foldSet {f : Inj} (off : Nat) : ∀ (l l' : List Value) (k : Nat) (a a' : Array Value), VRelL P f l l' → VRelL P f a.toList a'.toList →
    VRelL P f ((l.zipIdx k).foldl (fun cs p => cs.setIfInBounds (off + p.2) p.1) a).toList ((l'.zipIdx k).foldl (fun cs p => cs.setIfInBounds (off + p.2) p.1) a').toList
  | [], l', k, a, a', h, ha => by rw [h.nil_left]; simpa using ha
  | v :: l, l', k, a, a', h, ha => by
    obtain ⟨v', t', rfl, hv, ht⟩ := h.uncons
    simp only [List.zipIdx_cons, List.foldl_cons]
    exact foldSet off l t' (k + 1) _ _ ht (by simpa [Array.toList_setIfInBounds] using ha.set hv _)

/-- parts, place by place -/
def PRel (P : Program) (f : Inj) (l l' : List (Nat × Value)) : Prop := l.map (·.1) = l'.map (·.1) ∧ VRelL P f (l.map (·.2)) (l'.map (·.2))

theorem sim_fill {f : Inj} {place : Nat → Option (Nat × Nat)} : ∀ (ps ps' : List (Nat × Value)) (c c' : Array Value) (r : Array Value), PRel P f ps ps' → VRelL P f c.toList c'.toList →
    (∀ p ∈ ps, notTuple p.2 = true) → Instr.fill place c ps = some r → ∃ r', Instr.fill place c' ps' = some r' ∧ VRelL P f r.toList r'.toList
  | [], ps', c, c', r, hp, hc, _, h => by
    have : ps' = [] := by have := hp.1; simpa using this
    subst this
    simp [Instr.fill] at h ⊢
    subst h; exact hc
  | (i, v) :: ps, ps', c, c', r, hp, hc, hn, h => by
    cases ps' with
    | nil => have := hp.1; simp at this
    | cons p' ps' =>
      obtain ⟨i', v'⟩ := p'
      obtain ⟨h1, h2⟩ := hp
      simp only [List.map_cons, List.cons.injEq] at h1
      obtain ⟨rfl, h1⟩ := h1
      obtain ⟨u, t, he, hv, ht⟩ := h2.uncons
      simp only [List.map_cons, List.cons.injEq] at he
      obtain ⟨rfl, rfl⟩ := he
      have hcells := hv.cells (hn (i, v) (by simp))
      have hsz : v'.cells.size = v.cells.size := by have := hcells.1; simpa using this.symm
      have hcs : c'.size = c.size := by have := hc.1; simpa using this.symm
      simp only [Instr.fill] at h ⊢
      cases hpl : place i with
      | none => rw [hpl] at h; cases h
      | some os =>
        obtain ⟨off, size⟩ := os
        rw [hpl] at h
        simp only [hsz, hcs] at h ⊢
        split at h
        · cases h
        · rename_i hcond
          rw [if_neg hcond]
          refine sim_fill ps ps' _ _ r ⟨h1, ht⟩ ?_ (fun p hp => hn p (by simp [hp])) h
          have := foldSet (P := P) off v.cells.toList v'.cells.toList 0 c c' hcells hc
          rw [← Array.foldl_toList, ← Array.foldl_toList]
          simpa using this

theorem sim_build {f : Inj} {H : IH} {w : World} {t : TypeId} {ps ps' : List (Nat × Value)} {v : Value} (hR : Rel P f H w) (h : ibuild P t ps = some v) (hp : PRel P f ps ps') :
    Post P f H w v H ((Instr.build t ps'.toArray).run P w) := by
  unfold ibuild at h
  split at h
  · rename_i zero fields hz hu
    obtain ⟨hz0, hpz⟩ := zeroP_some hz
    split at h
    · rename_i places hpl
      split at h
      · rename_i hall
        simp only [Option.map_eq_some_iff] at h
        obtain ⟨cs, hf, rfl⟩ := h
        have hpls := optMapM _ _ _ hpl
        have hrun := run_mapM (P := P) (fun f : Field => do pure (f.offset, ← sizeOf f.type)) (fun f : Field => (f.offset, P.cellsOf f.type)) w fields.toList (fun a ha => by
          obtain ⟨i, hi, hia⟩ := List.mem_iff_getElem.1 ha
          have h1 := congrArg (fun l => l[i]?) hpls
          simp only [List.getElem?_map, List.getElem?_eq_getElem hi, Option.map_some, hia] at h1
          cases hs : szT P a.type with
          | none => rw [hs] at h1; cases hx : places[i]? <;> simp [hx] at h1
          | some n => simp [run_size hs, szT_cells hs])
        have hplaces : places = fields.toList.map (fun f : Field => (f.offset, P.cellsOf f.type)) := by
          apply List.ext_getElem?
          intro i
          have h1 := congrArg (fun l => l[i]?) hpls
          simp only [List.getElem?_map] at h1 ⊢
          cases hi : fields.toList[i]? with
          | none => rw [hi] at h1; cases hx : places[i]? with
            | none => rfl
            | some y => simp [hx] at h1
          | some x =>
            rw [hi] at h1
            simp only [Option.map_some] at h1 ⊢
            cases hs : szT P x.type with
            | none => rw [hs] at h1; cases hx : places[i]? <;> simp [hx] at h1
            | some n => rw [hs] at h1; cases hx : places[i]? with
              | none => simp [hx] at h1
              | some y => simp [hx] at h1; rw [← h1, szT_cells hs]
        obtain ⟨r', h1, h2⟩ := sim_fill ps ps' zero.cells zero.cells cs hp (.of_plain hpz) (by simpa using hall) hf
        refine .same hR (v' := .agg r') ?_ (.of_agg h2)
        simp only [Instr.build, Sem.run_bind, run_zero hz0, Result.andThen_ok, run_underlying hu, Array.mapM_eq_mapM_toList, Sem.run_map, hrun]
        rw [hplaces] at h1
        have e1 : (fun i : Nat => (List.map (fun f : Field => (f.offset, P.cellsOf f.type)) fields.toList).toArray[i]?) = fun x : Nat => Option.map (fun f : Field => (f.offset, P.cellsOf f.type)) fields[x]? := by
          funext i; simp
        rw [e1] at h1
        simp [h1]
      · cases h
    · cases h
  · rename_i zero n elem hz hu
    obtain ⟨hz0, hpz⟩ := zeroP_some hz
    split at h
    · rename_i size hs
      split at h
      · rename_i hall
        simp only [Option.map_eq_some_iff] at h
        obtain ⟨cs, hf, rfl⟩ := h
        obtain ⟨r', h1, h2⟩ := sim_fill ps ps' zero.cells zero.cells cs hp (.of_plain hpz) (by simpa using hall) hf
        refine .same hR (v' := .agg r') ?_ (.of_agg h2)
        simp [Instr.build, run_zero hz0, run_underlying hu, run_size hs, h1]
      · cases h
    · cases h
  · cases h

end Go.Idl

namespace Go.Idl
variable {P : Program}

def OptRel (P : Program) (f : Inj) : Option Value → Option Value → Prop
  | none, none => True
  | some v, some v' => VRel P f v v'
  | _, _ => False

theorem VRel.int {f : Inj} {k : IntKind} {n : Int} {v' : Value} (h : VRel P f (.int k n) v') : v' = .int k n := h.plain rfl
theorem VRel.boolV {f : Inj} {b : Bool} {v' : Value} (h : VRel P f (.bool b) v') : v' = .bool b := h.plain rfl
theorem VRel.str {f : Inj} {b : ByteArray} {v' : Value} (h : VRel P f (.string b) v') : v' = .string b := h.plain rfl

theorem plain_default : plainV (default : Value) = true := rfl

theorem zeroRow_plain {elem : TypeId} {n : Nat} {z : Array Value} (h : zeroRow P elem n = some z) : plainL z.toList = true := by
  unfold zeroRow at h
  split at h
  · cases h; rfl
  · simp only [Option.map_eq_some_iff] at h
    obtain ⟨zv, hz, rfl⟩ := h
    obtain ⟨_, hp⟩ := zeroP_some hz
    rw [plainL_iff]
    intro v hv
    simp only [Array.toList_map, List.mem_map] at hv
    obtain ⟨i, _, rfl⟩ := hv
    rw [Array.getElem!_eq_getD]
    unfold Array.getD
    split
    · exact plainL_iff.1 hp _ (by simp)
    · exact plain_default

theorem zeroRow_cases {elem : TypeId} {n : Nat} {z : Array Value} (h : zeroRow P elem n = some z) :
    (n = 0 ∧ z = #[]) ∨ (n ≠ 0 ∧ ∃ zv, zeroT P elem = some zv ∧ (Array.range n).map (fun i => zv.cells[i % zv.cells.size]!) = z) := by
  unfold zeroRow at h
  split at h
  · rename_i hn
    cases h
    exact .inl ⟨hn, rfl⟩
  · rename_i hn
    simp only [Option.map_eq_some_iff] at h
    obtain ⟨zv, hz, rfl⟩ := h
    exact .inr ⟨hn, zv, (zeroP_some hz).1, rfl⟩

theorem sim_buildSlice {f : Inj} {H H' : IH} {w : World} {t : TypeId} {len : Nat} {ps ps' : List (Nat × Value)} {v : Value} (hR : Rel P f H w) (h : ibuildSlice P t len ps H = some (.val v H')) (hp : PRel P f ps ps') :
    Post P f H w v H' ((Instr.buildSlice t len ps'.toArray).run P w) := by
  unfold ibuildSlice at h
  split at h
  · rename_i elem hu
    split at h
    · rename_i size hs
      split at h
      · rename_i hc
        simp only [Bool.and_eq_true, decide_eq_true_eq] at hc
        split at h
        · rename_i z hz
          split at h
          · rename_i cells hf
            cases h
            obtain ⟨r', h1, h2⟩ := sim_fill ps ps' z z cells hp (.of_plain (zeroRow_plain hz)) (by simpa using hc.2) hf
            obtain ⟨e, e1, e2, e3, e4, e5, e6⟩ := sim_new (P := P) elem hR h2
            refine ⟨_, _, _, ?_, e3, e4, sl_new len len e5 e1 e2, e6⟩
            simp only [Instr.buildSlice, Sem.run_bind, run_underlying hu, Result.andThen_ok, run_size hs]
            rw [if_neg (by omega)]
            rcases zeroRow_cases hz with ⟨hn, rfl⟩ | ⟨hn, zv, hzv, rfl⟩
            · simp [hn, show Array.range 0 = #[] from rfl, h1, newRow]
            · simp only [hn, if_false, Sem.run_bind, run_zero hzv, Result.andThen_ok, Sem.run_pure, h1]
              simp [newRow]
          · cases h
        · cases h
      · cases h
    · cases h
  · cases h

theorem wrap_i64 {n : Int} (h0 : 0 ≤ n) (h1 : n ≤ 2 ^ 62) : IntKind.i64.wrap n = n := by
  have e : n % (18446744073709551616 : Int) = n := Int.emod_eq_of_lt h0 (by omega)
  have hw : IntKind.i64.wrap n = if (true && decide (n % (18446744073709551616 : Int) ≥ 9223372036854775808)) = true then n % (18446744073709551616 : Int) - 18446744073709551616 else n % (18446744073709551616 : Int) := rfl
  rw [hw]
  simp only [e]
  rw [if_neg]
  simp
  omega

theorem sim_makeSlice {f : Inj} {H H' : IH} {w : World} {t : TypeId} {l l' c c' v : Value} (hR : Rel P f H w) (h : imakeSlice P t l c H = some (.val v H')) (hl : VRel P f l l') (hc : VRel P f c c') :
    Post P f H w v H' ((Instr.makeSlice t l' c').run P w) := by
  unfold imakeSlice at h
  split at h
  · rename_i elem k1 l k2 c hu
    rw [hl.int, hc.int]
    split at h
    · rename_i i hi
      split at h
      · rename_i hb
        simp only [Bool.and_eq_true, decide_eq_true_eq] at hb
        obtain ⟨⟨⟨b1, b2⟩, b3⟩, b4⟩ := hb
        split at h
        · rename_i z hz
          cases h
          have hsz : szT P elem = some i.size := by simp [szT, hi]
          have w1 : IntKind.i64.wrap l = l := wrap_i64 b1 (by omega)
          have w2 : IntKind.i64.wrap c = c := wrap_i64 (by omega) (by omega)
          obtain ⟨e, e1, e2, e3, e4, e5, e6⟩ := sim_new (P := P) elem hR (.of_plain (zeroRow_plain hz) : VRelL P f z.toList z.toList)
          refine ⟨_, _, _, ?_, e3, e4, sl_new l.toNat c.toNat e5 e1 e2, e6⟩
          have hbc : ¬ ((i.bytes : Int) * c > 2 ^ 48) := by omega
          simp only [Instr.makeSlice, Sem.run_bind, run_underlying hu, Result.andThen_ok, asInt, asIntOf, Sem.run_pure, typeInfo, run_program, hi, w1, w2]
          rw [if_neg (by simp; omega)]
          simp only [Sem.run_bind, run_askRoom, Result.andThen_ok, run_size hsz]
          rcases zeroRow_cases hz with ⟨hn, rfl⟩ | ⟨hn, zv, hzv, rfl⟩
          · simp [hn, show Array.range 0 = #[] from rfl, newRow]
          · simp only [hn, if_false, Sem.run_bind, run_zero hzv, Result.andThen_ok, Sem.run_pure]
            simp [newRow]
        · cases h
      · cases h
    · cases h
  · cases h

/-! ### Slices of slices -/
theorem run_sliceBound {k : IntKind} {i : Int} {y : Nat} {code : BoundsCode} (h0 : 0 ≤ i) (h1 : i ≤ y) (w : World) : (Instr.sliceBound (.int k i) y code).run P w = .ok i.toNat w := by
  simp [Instr.sliceBound, asIntOf, h0, h1]

theorem boundI_inv {d most n : Nat} {o : Option Value} (h : boundI d most o = some n) : (o = none ∧ n = d) ∨ ∃ k i, o = some (.int k i) ∧ 0 ≤ i ∧ i ≤ (most : Int) ∧ n = i.toNat := by
  unfold boundI at h
  split at h
  · cases h; exact .inl ⟨rfl, rfl⟩
  · rename_i k i
    split at h
    · rename_i hc
      simp only [Bool.and_eq_true, decide_eq_true_eq] at hc
      cases h; exact .inr ⟨k, i, rfl, hc.1, hc.2, rfl⟩
    · cases h
  · cases h

theorem optInt {f : Inj} {k : IntKind} {i : Int} {o : Option Value} (h : OptRel P f (some (.int k i)) o) : o = some (.int k i) := by
  cases o with
  | none => simp [OptRel] at h
  | some v => rw [VRel.int h]
theorem optNone {f : Inj} {o : Option Value} (h : OptRel P f none o) : o = none := by
  cases o with
  | none => rfl
  | some v => simp [OptRel] at h

theorem run_sliceBounds {f : Inj} {isS : Bool} {len cap cap' h l : Nat} {lo lo' hi hi' : Option Value} (hlo : OptRel P f lo lo') (hhi : OptRel P f hi hi')
    (h1 : boundI len cap hi = some h) (h2 : boundI 0 h lo = some l) (hcap : cap ≤ cap') (w : World) : (Instr.sliceBounds isS len cap' lo' hi' none).run P w = .ok (l, h, cap') w := by
  rcases boundI_inv h1 with ⟨rfl, rfl⟩ | ⟨k, i, rfl, b0, b1, rfl⟩
  · rw [optNone hhi]
    rcases boundI_inv h2 with ⟨rfl, rfl⟩ | ⟨k2, i2, rfl, c0, c1, rfl⟩
    · rw [optNone hlo]; simp [Instr.sliceBounds]
    · rw [optInt hlo]
      have := run_sliceBound (P := P) (k := k2) (code := .sliceB) c0 c1 w
      simp [Instr.sliceBounds, this]
  · rw [optInt hhi]
    have r1 := fun code => run_sliceBound (P := P) (k := k) (code := code) b0 (show i ≤ (cap' : Int) by omega) w
    rcases boundI_inv h2 with ⟨rfl, rfl⟩ | ⟨k2, i2, rfl, c0, c1, rfl⟩
    · rw [optNone hlo]; simp [Instr.sliceBounds, r1]
    · rw [optInt hlo]
      have := run_sliceBound (P := P) (k := k2) (code := .sliceB) c0 c1 w
      simp [Instr.sliceBounds, r1, this]

theorem boundI_le {d most n : Nat} {o : Option Value} (h : boundI d most o = some n) (hd : d ≤ most) : n ≤ most := by
  rcases boundI_inv h with ⟨_, rfl⟩ | ⟨k, i, _, b0, b1, rfl⟩ <;> omega

theorem VRel.nilSlice {f : Inj} {l c : Nat} {v' : Value} (h : VRel P f (.slice none l c) v') : v' = .slice none l c := by
  cases h; rfl

theorem sub_mul_le {o s l c N : Nat} (h : o + c * s ≤ N) (hl : l ≤ c) : o + l * s + (c - l) * s ≤ N := by
  have : l * s + (c - l) * s = c * s := by rw [← Nat.add_mul]; congr 1; omega
  omega

theorem sizeOf_slice {t elem : TypeId} (hu : P.underlying t = some (.slice elem)) {a : Option Addr} {len cap l h size : Nat} {lo hi : Option Value} {w : World} (hb : (Instr.sliceBounds true len cap lo hi none).run P w = .ok (l, h, cap) w)
    (hs : (sizeOf elem).run P w = .ok size w) :
    (Instr.sliceAt t (.slice a len cap) lo hi none).run P w = .ok (.slice (if cap = l then a else a.map (·.add (l * size))) (h - l) (cap - l)) w := by
  simp [Instr.sliceAt, Instr.slice, run_underlying hu, hb, hs]

theorem sim_slice {f : Inj} {w : World} {t : TypeId} {x x' : Value} {lo lo' hi hi' mx mx' : Option Value} {v : Value} (h : islice P t x lo hi mx = some v) (hx : VRel P f x x')
    (hlo : OptRel P f lo lo') (hhi : OptRel P f hi hi') (hmx : OptRel P f mx mx') : ∃ v', (Instr.sliceAt t x' lo' hi' mx').run P w = .ok v' w ∧ VRel P f v v' := by
  unfold islice at h
  split at h
  · -- the nil slice
    rename_i elem hu
    have : mx' = none := by cases mx' with
      | none => rfl
      | some v => simp [OptRel] at hmx
    subst this
    rw [hx.nilSlice]
    split at h
    · rename_i size hh hs h1
      split at h
      · rename_i l h2
        cases h
        have hb := run_sliceBounds (P := P) (isS := true) hlo hhi h1 h2 (Nat.le_refl 0) w
        have h3 : hh = 0 := by have := boundI_le h1 (Nat.le_refl 0); omega
        have h4 : l = 0 := by have := boundI_le h2 (Nat.zero_le _); omega
        subst h3 h4
        exact ⟨_, sizeOf_slice hu hb (run_size hs w), .base _ rfl⟩
      · cases h
    · cases h
  · rename_i elem b o sp len cap hu
    have : mx' = none := by cases mx' with
      | none => rfl
      | some v => simp [OptRel] at hmx
    subst this
    split at h
    · rename_i size hh hs h1
      split at h
      · rename_i l h2
        split at h
        · rename_i hsp
          cases h
          simp only [Bool.and_eq_true, Nat.ble_eq] at hsp
          obtain ⟨hsp, hhc⟩ := hsp
          have hlh : l ≤ hh := boundI_le h2 (Nat.zero_le _)
          have key : ∀ (cap' : Nat), cap ≤ cap' → ∀ a : Option Addr, (Instr.sliceAt t (.slice a len cap') lo' hi' none).run P w = .ok (.slice (if cap' = l then a else a.map (·.add (l * size))) (hh - l) (cap' - l)) w :=
            fun cap' hc a => sizeOf_slice hu (run_sliceBounds (P := P) (isS := true) hlo hhi h1 h2 hc w) (run_size hs w)
          cases hx with
          | base _ hp => have hp' : false = true := hp; cases hp'
          | @sl _ _ _ _ e hb =>
            refine ⟨_, key cap (Nat.le_refl _) _, ?_⟩
            by_cases hc : cap = l
            · simp only [hc, if_true]
              exact .sl hb
            · simp only [hc, if_false, Option.map_some, add_addr]
              have := VRel.sl (P := P) (o := o + l * size) (len := hh - l) (cap := cap - l) hb
              rwa [show o + l * size + e.shift = o + e.shift + l * size by omega] at this
          | @room _ _ el _ _ cap' e hb hcc hn =>
            have hel : el = elem := by simpa using hsp
            subst hel
            have hsz := szT_cells hs
            refine ⟨_, key cap' hcc _, ?_⟩
            by_cases hc : cap = l
            · -- nothing is left of it
              have e1 : hh - l = 0 := by omega
              have e2 : cap - l = 0 := by omega
              rw [e1, e2]
              by_cases hc' : cap' = l
              · simp only [hc', if_true]
                refine .room0 hb (by omega) ?_
                have := Nat.le_trans (Nat.le_add_right (o + e.shift) _) hn
                simpa using this
              · simp only [hc', if_false, Option.map_some, add_addr]
                refine .room0 hb (by omega) ?_
                have := sub_mul_le hn (show l ≤ cap' by omega)
                rw [hsz] at this ⊢
                omega
            · have hne : ¬ cap' = l := by omega
              simp only [hc, hne, if_false, Option.map_some, add_addr]
              have := VRel.room (P := P) (o := o + l * size) (len := hh - l) (cap := cap - l) (cap' := cap' - l) (el := el) hb (by omega) (by
                have := sub_mul_le hn (show l ≤ cap' by omega)
                rw [hsz] at this ⊢
                omega)
              rwa [show o + l * size + e.shift = o + e.shift + l * size by omega] at this
          | @room0 _ _ o' el cap' e hb hsh hn =>
            have hz : hh = 0 := by omega
            have hl0 : l = 0 := by omega
            subst hz hl0
            refine ⟨_, key cap' (Nat.zero_le _) _, ?_⟩
            have e1 : (⟨e.r, o', none⟩ : Addr).add (0 * size) = ⟨e.r, o', none⟩ := by simp [Addr.add]
            simp only [Option.map_some, e1]
            have e2 : (if cap' = 0 then some (⟨e.r, o', none⟩ : Addr) else some ⟨e.r, o', none⟩) = some ⟨e.r, o', none⟩ := by split <;> rfl
            rw [e2]
            exact .room0 hb hsh hn
          | @gh _ a' e hb hg =>
            have hz : hh = 0 := by omega
            have hl0 : l = 0 := by omega
            subst hz hl0
            refine ⟨_, key 0 (Nat.le_refl _) _, ?_⟩
            simp only [if_true]
            exact .gh hb hg
        · cases h
      · cases h
    · cases h
  · rename_i n elem b o hu
    have : mx' = none := by cases mx' with
      | none => rfl
      | some v => simp [OptRel] at hmx
    subst this
    obtain ⟨e, hb, rfl⟩ := hx.ptr_inv
    split at h
    · rename_i size hh hs h1
      split at h
      · rename_i l h2
        cases h
        have hbd := run_sliceBounds (P := P) (isS := false) hlo hhi h1 h2 (Nat.le_refl n) w
        refine ⟨.slice (some (if n = l then ⟨e.r, o + e.shift, none⟩ else (⟨e.r, o + e.shift, none⟩ : Addr).add (l * size))) (hh - l) (n - l), ?_, ?_⟩
        · simp [Instr.sliceAt, Instr.sureAddr, run_underlying hu, hbd, run_size hs]
        · by_cases hc : n = l
          · simp only [hc, if_true]; exact .sl hb
          · simp only [hc, if_false, add_addr]
            have := VRel.sl (P := P) (o := o + l * size) (len := hh - l) (cap := n - l) hb
            rwa [show o + l * size + e.shift = o + e.shift + l * size by omega] at this
      · cases h
    · cases h
  · cases h

end Go.Idl

namespace Go.Idl
variable {P : Program}

theorem sim_fieldAt {f : Inj} {w : World} {s : TypeId} {x x' v : Value} {fd : Nat} (h : ifieldAt P s x fd = some v) (hx : VRel P f x x') :
    ∃ v', (Instr.fieldAt s x' fd).run P w = .ok v' w ∧ VRel P f v v' := by
  unfold ifieldAt at h
  split at h
  · rename_i fields b o hu
    obtain ⟨e, hb, rfl⟩ := hx.ptr_inv
    split at h
    · rename_i fl hf
      split at h
      · rename_i sz hs
        split at h
        · cases h
        · rename_i hne
          cases h
          refine ⟨.pointer (some ⟨e.r, o + fl.offset + e.shift, none⟩), ?_, .ptr hb⟩
          simp [Instr.fieldAt, run_underlying hu, hf, Instr.sureAddr, fieldPlace, run_size hs, hne, add_addr]
          omega
      · cases h
    · cases h
  · cases h

theorem VRelL.extract {f : Inj} {c c' : Array Value} (h : VRelL P f c.toList c'.toList) (a b : Nat) : VRelL P f (c.extract a b).toList (c'.extract a b).toList := by
  simp only [Array.toList_extract]
  unfold List.extract
  exact (h.drop a).take _

theorem sim_part {f : Inj} {w : World} {t : TypeId} {c c' : Array Value} {off : Nat} {v : Value} (h : ipart P t c off = some v) (hc : VRelL P f c.toList c'.toList) :
    ∃ v', (part t c' off).run P w = .ok v' w ∧ VRel P f v v' := by
  unfold ipart at h
  split at h
  · rename_i hag
    split at h
    · rename_i n hn
      split at h
      · cases h
        refine ⟨.agg (c'.extract off (off + n)), ?_, .of_agg (hc.extract _ _)⟩
        simp [part, run_agg hag, run_size hn]
      · cases h
    · cases h
  · rename_i hag
    obtain ⟨v', h1, h2⟩ := hc.get (i := off) (v := v) (by simpa using h)
    refine ⟨v', ?_, h2⟩
    have h1' : c'[off]? = some v' := by simpa using h1
    simp [part, run_agg hag, h1']
  · cases h

theorem sim_field {f : Inj} {w : World} {t : TypeId} {x x' v : Value} {fd : Nat} (h : ifield P t x fd = some v) (hx : VRel P f x x') :
    ∃ v', (Instr.field t x' fd).run P w = .ok v' w ∧ VRel P f v v' := by
  unfold ifield at h
  split at h
  · rename_i fields cs hu
    obtain ⟨cs', rfl, hc⟩ := hx.agg_iff
    split at h
    · rename_i fl hf
      obtain ⟨v', h1, h2⟩ := sim_part (w := w) h hc
      refine ⟨v', ?_, h2⟩
      simp [Instr.field, run_underlying hu, hf, asAgg, h1]
    · cases h
  · cases h

theorem sim_index {f : Inj} {w : World} {t : TypeId} {x x' ix ix' v : Value} (h : iindex P t x ix = some v) (hx : VRel P f x x') (hi : VRel P f ix ix') :
    ∃ v', (Instr.index t x' ix').run P w = .ok v' w ∧ VRel P f v v' := by
  unfold iindex at h
  split at h
  · rename_i n elem cs k i hu
    obtain ⟨cs', rfl, hc⟩ := hx.agg_iff
    rw [hi.int]
    split at h
    · rename_i size hs
      split at h
      · rename_i hb
        simp only [Bool.and_eq_true, decide_eq_true_eq] at hb
        obtain ⟨v', h1, h2⟩ := sim_part (w := w) h hc
        refine ⟨v', ?_, h2⟩
        simp [Instr.index, asIntOf, run_underlying hu, hb.1, hb.2, run_size hs, h1]
      · cases h
    · cases h
  · cases h

theorem sim_indexAt {f : Inj} {w : World} {t : TypeId} {x x' ix ix' v : Value} (h : iindexAt P t x ix = some v) (hx : VRel P f x x') (hi : VRel P f ix ix') :
    ∃ v', (Instr.indexAt t x' ix').run P w = .ok v' w ∧ VRel P f v v' := by
  unfold iindexAt at h
  split at h
  · rename_i n elem b o k i hu
    obtain ⟨e, hb, rfl⟩ := hx.ptr_inv
    rw [hi.int]
    split at h
    · rename_i size hs
      split at h
      · rename_i hbd
        simp only [Bool.and_eq_true, decide_eq_true_eq] at hbd
        cases h
        refine ⟨.pointer (some ⟨e.r, o + i.toNat * size + e.shift, none⟩), ?_, .ptr hb⟩
        simp [Instr.indexAt, asIntOf, run_underlying hu, Instr.sureAddr, hbd.1, hbd.2, run_size hs, add_addr]
        omega
      · cases h
    · cases h
  · rename_i elem b o sp len cap k i hu
    rw [hi.int]
    split at h
    · rename_i size hs
      split at h
      · rename_i hbd
        simp only [Bool.and_eq_true, decide_eq_true_eq] at hbd
        cases h
        have fin : ∀ (r off cap' : Nat), (Instr.indexAt t (.slice (some ⟨r, off, none⟩) len cap') (.int k i)).run P w = .ok (.pointer (some ⟨r, off + i.toNat * size, none⟩)) w := by
          intro r off cap'
          simp [Instr.indexAt, asIntOf, run_underlying hu, hbd.1, hbd.2, run_size hs, add_addr]
        cases hx with
        | base _ hp => have hp' : false = true := hp; cases hp'
        | @sl _ _ _ _ e hb =>
          refine ⟨_, fin _ _ _, ?_⟩
          have := VRel.ptr (P := P) (o := o + i.toNat * size) hb
          rwa [show o + i.toNat * size + e.shift = o + e.shift + i.toNat * size by omega] at this
        | @room _ _ el _ _ cap' e hb hcc hn =>
          refine ⟨_, fin _ _ _, ?_⟩
          have := VRel.ptr (P := P) (o := o + i.toNat * size) hb
          rwa [show o + i.toNat * size + e.shift = o + e.shift + i.toNat * size by omega] at this
        | room0 hb hsh hn => omega
        | gh hb hg => omega
      · cases h
    · cases h
  · cases h

theorem val_inj {v v' : Value} {H H' : IH} (h : some (Step1.val v H) = some (.val v' H')) : v = v' ∧ H = H' := by cases h; exact ⟨rfl, rfl⟩

theorem sim_pick {f : Inj} {H H' : IH} {w : World} {c a b c' a' b' v : Value} (hR : Rel P f H w) (h : ipick c a b H = some (.val v H')) (hc : VRel P f c c') (ha : VRel P f a a') (hb : VRel P f b b') :
    Post P f H w v H' ((do pure (if ← asBool c' then a' else b') : Sem Value).run P w) := by
  unfold ipick at h
  split at h
  · rename_i t
    rw [hc.boolV]
    obtain ⟨rfl, rfl⟩ := val_inj h
    cases t
    · exact .same hR (v' := b') (by simp [asBool]) hb
    · exact .same hR (v' := a') (by simp [asBool]) ha
  · cases h

theorem VRel.tuple_inv {f : Inj} {vs : Array Value} {v' : Value} (h : VRel P f (.tuple vs) v') : (vs = #[] ∨ vs = #[.tuple #[]] ∨ ∃ vs', v' = .tuple vs' ∧ VRelL P f vs.toList vs'.toList) := by
  cases h with
  | any v => exact .inr (.inl rfl)
  | undef => exact .inl rfl
  | base _ hp => have hp' : false = true := hp; cases hp'
  | tuple ha hav => exact .inr (.inr ⟨_, rfl, by simpa using ha, fun i v v' h1 h2 => hav i v v' (by simpa using h1) (by simpa using h2)⟩)

theorem sim_extract {f : Inj} {H H' : IH} {w : World} {x x' v : Value} {ix : Nat} (hR : Rel P f H w) (h : iextract x ix H = some (.val v H')) (hx : VRel P f x x') :
    Post P f H w v H' ((Instr.extract x' ix).run P w) := by
  unfold iextract at h
  split at h
  · rename_i vs
    have h1 : nthR vs.toList ix = some v ∧ notTuple v = true ∧ H' = H := by
      unfold iextract2 at h
      split at h
      · rename_i u hu
        cases hn : notTuple u with
        | false => rw [hn] at h; cases h
        | true => rw [hn] at h; cases h; exact ⟨hu, hn, rfl⟩
      · cases h
    obtain ⟨h1, hnt, rfl⟩ := h1
    rw [nthR_eq] at h1
    rcases hx.tuple_inv with rfl | rfl | ⟨vs', rfl, hv⟩
    · simp at h1
    · cases ix <;> simp at h1
      subst h1; simp [notTuple] at hnt
    · obtain ⟨v', h2, h3⟩ := hv.get h1
      have h2' : vs'[ix]? = some v' := by simpa using h2
      exact .same hR (v' := v') (by simp [Instr.extract, h2']) h3
  · cases h

theorem sim_makeFunc {f : Inj} {H H' : IH} {w : World} {fn : Fn} {a c a' c' : Array Value} {v : Value} (hR : Rel P f H w) (h : imakeFunc fn a c H = some (.val v H')) (ha : VRelL P f a.toList a'.toList) (hc : VRelL P f c.toList c'.toList) :
    Post P f H w v H' ((Instr.makeFunc fn a' c').run P w) := by
  unfold imakeFunc at h
  split at h
  · obtain ⟨rfl, rfl⟩ := val_inj h
    exact .same hR rfl (.func (by simpa using ha.1) (by simpa using hc.1) (fun i v v' h1 h2 => ha.2 i v v' (by simpa using h1) (by simpa using h2)) (fun i v v' h1 h2 => hc.2 i v v' (by simpa using h1) (by simpa using h2)))
  · cases h

theorem VRel.func_inv {f : Inj} {fn : Fn} {a c : Array Value} {v' : Value} (h : VRel P f (.func fn a c) v') :
    (∃ g a' c', fn = .func g ∧ v' = .func (.func g) a' c' ∧ VRelL P f a.toList a'.toList ∧ VRelL P f c.toList c'.toList) ∨ (∃ l e, fn = .yield l ∧ a = #[] ∧ c = #[] ∧ f l = some e ∧ v' = .func (.yield e.r) #[] #[]) := by
  cases h with
  | base _ hp =>
    cases fn with
    | func g =>
      have hp' : (true && (allR (plainF 2) a.toList && allR (plainF 2) c.toList)) = true := hp
      simp only [Bool.and_eq_true, allR_iff] at hp'
      have pl : ∀ l : List Value, (∀ x ∈ l, plainF 2 x = true) → plainL l = true := fun l hl => plainL_iff.2 fun x hx => plainF_mono 2 x (hl x hx)
      exact .inl ⟨g, a, c, rfl, rfl, .of_plain (pl _ hp'.2.1), .of_plain (pl _ hp'.2.2)⟩
    | _ => have hp' : false = true := hp; cases hp'
  | func ha hc hav hcv =>
    exact .inl ⟨_, _, _, rfl, rfl, ⟨by simpa using ha, fun i v v' h1 h2 => hav i v v' (by simpa using h1) (by simpa using h2)⟩, ⟨by simpa using hc, fun i v v' h1 h2 => hcv i v v' (by simpa using h1) (by simpa using h2)⟩⟩
  | yield h => exact .inr ⟨_, _, rfl, rfl, rfl, h, rfl⟩

theorem of_func {f : Inj} {g : FuncId} {a c a' c' : Array Value} (ha : VRelL P f a.toList a'.toList) (hc : VRelL P f c.toList c'.toList) : VRel P f (.func (.func g) a c) (.func (.func g) a' c') :=
  .func (by simpa using ha.1) (by simpa using hc.1) (fun i v v' h1 h2 => ha.2 i v v' (by simpa using h1) (by simpa using h2)) (fun i v v' h1 h2 => hc.2 i v v' (by simpa using h1) (by simpa using h2))

/-- a pointer that is not nil stays one -/
theorem VRel.ptr_some {f : Inj} {a : Addr} {v' : Value} (h : VRel P f (.pointer (some a)) v') : ∃ a', v' = .pointer (some a') := by
  cases h with
  | base _ hp => have hp' : false = true := hp; cases hp'
  | ptr h => exact ⟨_, rfl⟩

theorem sim_nilCheck {f : Inj} {H H' : IH} {w : World} {x x' v : Value} (hR : Rel P f H w) (h : inilCheck x H = some (.val v H')) (hx : VRel P f x x') {o : Oper} {ρ : Operand → Value} {xo : Operand} (ho : o.op = .nilCheck xo) (hρ : ρ xo = x') :
    ∃ v', (execOp ρ o).run P w = .ok (.value v') w ∧ H' = H ∧ VRel P f v v' := by
  unfold inilCheck at h
  split at h
  · obtain ⟨rfl, rfl⟩ := val_inj h
    obtain ⟨a', rfl⟩ := hx.ptr_some
    exact ⟨_, by simp [execOp, ho, hρ], rfl, hx⟩
  · obtain ⟨rfl, rfl⟩ := val_inj h
    rcases hx.func_inv with ⟨g, a', c', hg, rfl, h1, h2⟩ | ⟨l, e, hg, _⟩
    · cases hg; exact ⟨_, by simp [execOp, ho, hρ], rfl, of_func h1 h2⟩
    · cases hg
  · obtain ⟨rfl, rfl⟩ := val_inj h
    rcases hx.func_inv with ⟨g, a', c', hg, _⟩ | ⟨l, e, hg, rfl, rfl, h1, rfl⟩
    · cases hg
    · cases hg; exact ⟨_, by simp [execOp, ho, hρ], rfl, .yield h1⟩
  · cases h

theorem sim_makeMap {f : Inj} {H H' : IH} {w : World} {v : Value} {r : Option Operand} (hR : Rel P f H w) (h : imakeMap r H = some (.val v H')) (t : TypeId) (ρ : Operand → Value) :
    Post P f H w v H' ((Instr.makeMap t (r.map ρ)).run P w) := by
  unfold imakeMap at h
  split at h
  · obtain ⟨rfl, rfl⟩ := val_inj h
    have hO : ORel P (f.add H.size ⟨w.heap.size, 0, 0, false⟩) ⟨w.heap.size, 0, 0, false⟩ (.map #[] 0) (some (.map #[] 0)) :=
      ⟨rfl, #[], rfl, rfl, fun i x hx => by simp at hx⟩
    obtain ⟨h1, h2⟩ := Rel.push hR rfl hO
    refine ⟨.map (some w.heap.size), _, _, ?_, h1, h2, ?_, .push⟩
    · simp [Instr.makeMap]
    · have := VRel.map (P := P) (f := f.add H.size ⟨w.heap.size, 0, 0, false⟩) (b := H.size) Inj.add_same
      exact this
  · cases h

end Go.Idl

namespace Go.Idl
variable {P : Program}

theorem plain_bytes (l : List UInt8) : plainL (l.map fun b => Value.int .u8 b.toNat) = true := by
  rw [plainL_iff]
  intro v hv
  obtain ⟨b, _, rfl⟩ := List.mem_map.1 hv
  rfl

/-- a block without room holds no cells -/
theorem gh_loads {f : Inj} {H : IH} {w : World} {b i n : Nat} {e : Emb} {l : List Value} (hR : Rel P f H w) (hb : f b = some e) (hg : e.N < e.shift) (h : H.loads b i n = some l) : False := by
  obtain ⟨c, el, fz, hc, _, _⟩ := loads_inv h
  obtain ⟨c', el', fz', _, h2, h3, _⟩ := hR.obj b e _ hb hc
  omega
/-- the first elements of a slice or a string, read -/
theorem sim_first {f : Inj} {H : IH} {w : World} {size n m : Nat} {x x' : Value} {l : List Value} (hR : Rel P f H w) (h : firstI size n H x = some l) (hx : VRel P f x x') (hm : lenOfI x = some m) (hn : n ≤ m) :
    ∃ l', (∀ w' : World, w'.heap = w.heap → (Builtin.firstCells size n x').run P w' = .ok l'.toArray w') ∧ VRelL P f l l' ∧ ((∃ a b c, x = .slice a b c) → l.length = n * size) := by
  unfold firstI at h
  split at h
  · rename_i b o sp len cap
    have hlen : l.length = n * size := by
      obtain ⟨c, el, fz, _, hle, rfl⟩ := loads_inv h
      simp; omega
    cases hx with
    | base _ hp => have hp' : false = true := hp; cases hp'
    | @sl _ _ _ _ e hb =>
      obtain ⟨l', h1, h2, h3⟩ := cells_rel hR hb h
      refine ⟨l', fun w' hw' => ?_, h1, fun _ => hlen⟩
      have := run_loadCells_list (P := P) w' ⟨e.r, o + e.shift, none⟩ l' (fun j v hj => by have := h3 j v hj; simpa only [World.cell?, hw'] using this)
      rw [h2] at this
      simpa [Builtin.firstCells] using this
    | @room _ _ el _ _ cap' e hb hcc hn' =>
      obtain ⟨l', h1, h2, h3⟩ := cells_rel hR hb h
      refine ⟨l', fun w' hw' => ?_, h1, fun _ => hlen⟩
      have := run_loadCells_list (P := P) w' ⟨e.r, o + e.shift, none⟩ l' (fun j v hj => by have := h3 j v hj; simpa only [World.cell?, hw'] using this)
      rw [h2] at this
      simpa [Builtin.firstCells] using this
    | @room0 _ _ o' el cap' e hb hsh hn' =>
      simp [lenOfI] at hm
      have hn0 : n = 0 := by omega
      subst hn0
      have : l = [] := by simpa using hlen
      subst this
      exact ⟨[], fun w' _ => by simp [Builtin.firstCells, loadCells, loadCellsFrom], .nil, fun _ => hlen⟩
    | gh hb hg => exact (gh_loads hR hb hg h).elim
  · rename_i len cap
    split at h
    · rename_i hn0
      cases h
      rw [hx.nilSlice]
      exact ⟨[], fun w' _ => by simp [Builtin.firstCells], .nil, fun _ => by simp [hn0]⟩
    · cases h
  · rename_i s
    cases h
    rw [hx.str]
    exact ⟨_, fun w' _ => by simp only [Builtin.firstCells, Sem.run_pure]; congr 1; apply Array.ext'; simp, .of_plain (plain_bytes _), fun ⟨a, b, c, hc⟩ => by cases hc⟩
  · cases h

/-- the same, of no element too -/
theorem sim_firstZ {f : Inj} {H : IH} {w : World} {size n m : Nat} {x x' : Value} {l : List Value} (hR : Rel P f H w) (h : firstZ size n H x = some l) (hx : VRel P f x x') (hm : lenOfI x = some m) (hn : n ≤ m) :
    ∃ l', (∀ w' : World, w'.heap = w.heap → (Builtin.firstCells size n x').run P w' = .ok l'.toArray w') ∧ VRelL P f l l' ∧ ((∃ a b c, x = .slice a b c) → l.length = n * size) := by
  unfold firstZ at h
  by_cases h0 : n = 0
  · subst h0
    rw [if_pos rfl, hm] at h
    simp only [Option.isSome_some, if_true, Option.some.injEq] at h
    subst h
    refine ⟨[], fun w' _ => ?_, .nil, fun _ => by simp⟩
    unfold lenOfI at hm
    split at hm
    · have key : ∃ a b c, x' = .slice a b c := by
        cases hx <;> exact ⟨_, _, _, rfl⟩
      obtain ⟨a, b, c, rfl⟩ := key
      cases a <;> simp [Builtin.firstCells, loadCells, loadCellsFrom]
    · rename_i s
      have : x' = .string s := hx.plain rfl
      subst this
      simp [Builtin.firstCells]
    · cases hm
  · rw [if_neg h0] at h
    exact sim_first hR h hx hm hn
theorem firstZ_zero {size : Nat} {H : IH} {x : Value} {l : List Value} (h : firstZ size 0 H x = some l) : l = [] := by
  unfold firstZ at h
  rw [if_pos rfl] at h
  split at h
  · cases h; rfl
  · cases h

theorem VRel.slice_len {f : Inj} {a : Option Addr} {l c : Nat} {x' : Value} (h : VRel P f (.slice a l c) x') : ∃ a' c', x' = .slice a' l c' := by
  cases h with
  | base _ _ => exact ⟨_, _, rfl⟩
  | sl _ => exact ⟨_, _, rfl⟩
  | room _ _ _ => exact ⟨_, _, rfl⟩
  | room0 _ _ _ => exact ⟨_, _, rfl⟩
  | gh _ _ => exact ⟨_, _, rfl⟩

theorem sim_lenOf {f : Inj} {x x' : Value} {m : Nat} (hx : VRel P f x x') (h : lenOfI x = some m) (w : World) : (Builtin.lenOf x').run P w = .ok m w := by
  unfold lenOfI at h
  split at h
  · cases h
    obtain ⟨a', c', rfl⟩ := hx.slice_len
    simp [Builtin.lenOf]
  · cases h
    rw [hx.str]; simp [Builtin.lenOf]
  · cases h

theorem VRelL.all_oneCell {f : Inj} {l l' : List Value} (h : VRelL P f l l') (h1 : ∀ v ∈ l, oneCell v = true) : ∀ v ∈ l', oneCell v = true := by
  intro v hv
  obtain ⟨j, hj, rfl⟩ := List.mem_iff_getElem.1 hv
  have hj2 : j < l.length := by rw [h.1]; exact hj
  exact (h.2 j l[j] l'[j] (List.getElem?_eq_getElem hj2) (List.getElem?_eq_getElem hj)).oneCell (h1 _ (List.getElem_mem hj2))

theorem sim_copy {f : Inj} {H H' : IH} {w : World} {at_ : Array TypeId} {as as' : List Value} {t : TypeId} {v : Value} (hR : Rel P f H w) (h : icopy P at_ as H = some (.val v H')) (ha : VRelL P f as as') :
    Post P f H w v H' ((Builtin.copy_ at_ t as'.toArray).run P w) := by
  unfold icopy at h
  split at h
  · rename_i st xt base dlen dcap x hat
    obtain ⟨s', r1, rfl, hs, hr1⟩ := ha.uncons
    obtain ⟨x', r2, rfl, hx, hr2⟩ := hr1.uncons
    have := hr2.nil_left; subst this
    obtain ⟨a', c', rfl⟩ := hs.slice_len
    have hat0 : at_ = #[st, xt] := by apply Array.ext'; simpa using hat
    subst hat0
    split at h
    · rename_i elem hu
      split at h
      · rename_i size m hsz hm
        split at h
        · rename_i l hl
          have hnm : Nat.min m dlen ≤ m := Nat.min_le_left _ _
          obtain ⟨l', h1', h2, _⟩ := sim_firstZ hR hl hx hm hnm
          have h1 := h1' w rfl
          have hlen := sim_lenOf (P := P) hx hm w
          have hrun : ∀ w', (match a' with
              | some a => storeCells a l'
              | none => pure ()).run P w = .ok () w' → (Builtin.copy_ #[st, xt] t #[.slice a' dlen c', x']).run P w = .ok (goInt (Nat.min m dlen)) w' := by
            intro w' hw'
            cases a' with
            | none =>
              simp only [Sem.run_pure, Result.ok.injEq, true_and] at hw'
              subst hw'
              simp [Builtin.copy_, run_underlying hu, hlen, run_size hsz, h1]
            | some a =>
              simp only at hw'
              simp [Builtin.copy_, run_underlying hu, hlen, run_size hsz, h1, hw']
          have nothing : l = [] → l' = [] := fun e => by subst e; exact h2.nil_left
          have done0 : l = [] → Post P f H w (goInt (Nat.min m dlen)) H ((Builtin.copy_ #[st, xt] t #[.slice a' dlen c', x']).run P w) := by
            intro e
            refine .same hR (v' := goInt (Nat.min m dlen)) (hrun w ?_) (.base _ rfl)
            rw [nothing e]
            cases a' <;> simp [storeCells]
          unfold icopyEnd at h
          split at h
          · rename_i a
            split at h
            · rename_i hemp
              obtain ⟨rfl, rfl⟩ := val_inj h
              exact done0 (by simpa using hemp)
            · rename_i hne
              split at h
              · rename_i H2 hst
                obtain ⟨rfl, rfl⟩ := val_inj h
                have fin : ∀ (e : Emb), f a.block = some e → a' = some ⟨e.r, a.off + e.shift, none⟩ → Post P f H w (goInt (Nat.min m dlen)) H2 ((Builtin.copy_ #[st, xt] t #[.slice a' dlen c', x']).run P w) := by
                  intro e hb ha'
                  obtain ⟨w', e1, e2, e3, e4⟩ := sim_stores hR hb hst h2
                  exact ⟨_, w', f, hrun w' (by rw [ha']; exact e1), e2, e3, .base _ rfl, e4⟩
                cases hs with
                | base _ hp => have hp' : false = true := hp; cases hp'
                | sl hb => exact fin _ hb rfl
                | room hb _ _ => exact fin _ hb rfl
                | gh hb _ =>
                  exfalso
                  apply hne
                  have : Nat.min m 0 = 0 := Nat.min_zero m
                  rw [this] at hl
                  rw [firstZ_zero hl]; rfl
                | room0 hb _ _ =>
                  exfalso
                  apply hne
                  have : Nat.min m 0 = 0 := Nat.min_zero m
                  rw [this] at hl
                  rw [firstZ_zero hl]; rfl
              · cases h
          · obtain ⟨rfl, rfl⟩ := val_inj h
            have : a' = none := by cases hs; rfl
            subst this
            exact .same hR (v' := goInt (Nat.min m dlen)) (hrun w (by simp)) (.base _ rfl)
        · cases h
      · cases h
    · cases h
  · cases h

end Go.Idl
