/- Lists that are written; drawn regions with new memory; cells of structures. Conditions: none. -/
import Derived.Test.YtpdlblofcdcikaaGreatDoorIdlK
set_option linter.unusedSimpArgs false
set_option linter.unusedVariables false
namespace Go.Idl
variable {P : Program}
def OwnAt (H : IH) (el : TypeId) (lo : Nat) (v : Value) (zs : List Int) : Prop :=
  ∃ b sp fz, lo ≤ b ∧ b < H.size ∧ v = .slice (some ⟨b, 0, sp⟩) zs.length zs.length ∧ H.get b = some (.cells (zs.map (Value.int .i64)).toArray el fz) ∧ freeFz fz = true
theorem OwnAt.row {H : IH} {el : TypeId} {lo : Nat} {v : Value} {zs : List Int} (h : OwnAt H el lo v zs) : RowAt H el lo H.size v zs := by
  obtain ⟨b, sp, fz, h1, h2, rfl, h3, _⟩ := h
  exact .inr ⟨b, sp, _, fz, h1, h2, h2, rfl, h3⟩
theorem OwnAt.ints {H : IH} {el : TypeId} {lo : Nat} {v : Value} {zs : List Int} (h : OwnAt H el lo v zs) (hn : zs.length ≤ 1000) : intsOf H v = some zs := h.row.ints hn
theorem OwnAt.keep {H H' : IH} {el : TypeId} {lo : Nat} {v : Value} {zs : List Int} (h : OwnAt H el lo v zs) (hs : H.size ≤ H'.size) (hk : ∀ b, lo ≤ b → b < H.size → blkIs v b → H'.get b = H.get b) : OwnAt H' el lo v zs := by
  obtain ⟨b, sp, fz, h1, h2, rfl, h3, h4⟩ := h
  exact ⟨b, sp, fz, h1, Nat.lt_of_lt_of_le h2 hs, rfl, (hk b h1 h2 rfl).trans h3, h4⟩
theorem OwnAt.lower {H : IH} {el : TypeId} {lo lo' : Nat} {v : Value} {zs : List Int} (h : OwnAt H el lo v zs) (hl : lo' ≤ lo) : OwnAt H el lo' v zs := by
  obtain ⟨b, sp, fz, h1, h2⟩ := h
  exact ⟨b, sp, fz, Nat.le_trans hl h1, h2⟩
theorem OwnAt.blk_lt {H : IH} {el : TypeId} {lo : Nat} {v : Value} {zs : List Int} (h : OwnAt H el lo v zs) {b : Nat} (hb : blkIs v b) : lo ≤ b ∧ b < H.size := by
  obtain ⟨b', sp, fz, h1, h2, rfl, h3, h4⟩ := h
  have : b' = b := hb
  subst this
  exact ⟨h1, h2⟩
theorem OwnAt.notOld {H : IH} {el : TypeId} {lo : Nat} {v : Value} {zs : List Int} (h : OwnAt H el lo v zs) {b : Nat} (hb : b < lo) : ¬ blkIs v b := fun h2 => by have := (h.blk_lt h2).1; omega
theorem OwnAt.len {H : IH} {el : TypeId} {lo : Nat} {v : Value} {zs : List Int} (h : OwnAt H el lo v zs) : ∃ a, v = .slice a zs.length zs.length := by
  obtain ⟨b', sp, fz, h1, h2, rfl, h3, h4⟩ := h
  exact ⟨_, rfl⟩
theorem OwnAt.cast {H : IH} {el : TypeId} {lo : Nat} {v : Value} {zs zs' : List Int} (h : OwnAt H el lo v zs) (e : zs = zs') : OwnAt H el lo v zs' := e ▸ h
theorem Grown.own {H : IH} {el : TypeId} {lo : Nat} {v : Value} {zs : List Int} (h : Grown H el lo v (zs.map (Value.int .i64))) (hne : zs ≠ []) : OwnAt H el lo v zs := by
  rcases h with ⟨h1, _⟩ | ⟨b, h1, h2, rfl, h3⟩
  · simp at h1; exact absurd h1 hne
  · exact ⟨b, some el, roomFz, h1, h2, by rw [List.length_map], h3, rfl⟩
theorem OwnAt.read {st el : TypeId} (he : El P st el) {H : IH} {lo : Nat} {v : Value} {zs : List Int} (h : OwnAt H el lo v zs) {i : Nat} {x : Int} (hi : zs[i]? = some x) {k : IntKind} :
    ∃ p, iindexAt P st v (.int k (i : Nat)) = some p ∧ iloadAt P el p H = some (.int .i64 x) := by
  obtain ⟨b, sp, fz, h1, h2, rfl, h3, h4⟩ := h
  refine ⟨_, index_slice he.und he.sz (Int.natCast_nonneg i) (Int.ofNat_lt.2 (List.getElem?_eq_some_iff.1 hi).1), ?_⟩
  simp only [Int.toNat_natCast, Nat.zero_add]
  exact load_one he.ag (load_row h3 hi)
theorem OwnAt.write {st el : TypeId} (he : El P st el) {H : IH} {lo : Nat} {v : Value} {zs : List Int} (h : OwnAt H el lo v zs) {i : Nat} (hi : i < zs.length) (hb : H.base ≤ lo) (z : Int) {k : IntKind} :
    ∃ p H', iindexAt P st v (.int k (i : Nat)) = some p ∧ istoreAt P el p (.int .i64 z) H = some H' ∧ OwnAt H' el lo v (zs.set i z) ∧ H'.size = H.size ∧ H'.base = H.base ∧ ∀ b, ¬ blkIs v b → H'.get b = H.get b := by
  obtain ⟨b, sp, fz, h1, h2, rfl, h3, h4⟩ := h
  refine ⟨_, H.put b (.cells ((zs.set i z).map (Value.int .i64)).toArray el fz), index_slice he.und he.sz (Int.natCast_nonneg i) (Int.ofNat_lt.2 hi), by simp only [Int.toNat_natCast, Nat.zero_add]; exact store_row he.sz h3 hi h4 (Nat.le_trans hb h1), ⟨b, sp, fz, h1, h2, by simp, get_put_eq, h4⟩, rfl, rfl, fun b' hb' => get_put_ne fun e => hb' e.symm⟩
theorem OwnAt.swap {st el : TypeId} (he : El P st el) {H : IH} {lo : Nat} {v : Value} {zs : List Int} (h : OwnAt H el lo v zs) {i j : Nat} {x y : Int} (hi : zs[i]? = some x) (hj : zs[j]? = some y) (hb : H.base ≤ lo) {k : IntKind} :
    ∃ p q H1 H2, iindexAt P st v (.int k (i : Nat)) = some p ∧ iindexAt P st v (.int k (j : Nat)) = some q ∧ iloadAt P el p H = some (.int .i64 x) ∧ iloadAt P el q H = some (.int .i64 y) ∧
      istoreAt P el p (.int .i64 y) H = some H1 ∧ istoreAt P el q (.int .i64 x) H1 = some H2 ∧ OwnAt H2 el lo v ((zs.set i y).set j x) ∧ H2.size = H.size ∧ H2.base = H.base ∧ ∀ b, ¬ blkIs v b → H2.get b = H.get b := by
  obtain ⟨p, a1, a2⟩ := h.read he hi (k := k)
  obtain ⟨q, b1, b2⟩ := h.read he hj (k := k)
  obtain ⟨p', H1, c1, c2, c3, c4, c5, c6⟩ := h.write he (i := i) (List.getElem?_eq_some_iff.1 hi).1 hb y (k := k)
  obtain ⟨q', H2, d1, d2, d3, d4, d5, d6⟩ := c3.write he (i := j) (by simpa using (List.getElem?_eq_some_iff.1 hj).1) (by rw [c5]; exact hb) x (k := k)
  rw [a1] at c1; cases c1
  rw [b1] at d1; cases d1
  exact ⟨p, q, H1, H2, a1, b1, a2, b2, c2, d2, d3, d4.trans c4, d5.trans c5, fun b hb' => (d6 b hb').trans (c6 b hb')⟩
/-- a new list of zeros -/
theorem OwnAt.zeros {H : IH} {el : TypeId} (n : Nat) : OwnAt (H.push (.cells ((List.replicate n (0 : Int)).map (Value.int .i64)).toArray el)) el H.size (.slice (some ⟨H.size, 0, none⟩) n n) (List.replicate n 0) :=
  ⟨H.size, none, _, Nat.le_refl _, by simp, by simp, get_push_eq, rfl⟩
end Go.Idl

namespace Go.Idl
variable {P : Program} {good : FuncId → Bool} {nat : Nats} {G : Nat → Bool} {rd : Bool}

/-- all that lies there lies there still -/
def Keeps (H H' : IH) : Prop := ∀ b o, H.get b = some o → H'.get b = some o
theorem Keeps.refl (H : IH) : Keeps H H := fun _ _ h => h
theorem Keeps.trans {H H1 H2 : IH} (a : Keeps H H1) (b : Keeps H1 H2) : Keeps H H2 := fun x o h => b x o (a x o h)
def WF (H : IH) : Prop := ∀ b, H.size ≤ b → H.get b = none
theorem WF.keeps {H : IH} (h : WF H) (o : Obj) : Keeps H (H.push o) := fun b o' hb => by
  rw [IH.get_push]
  split
  · rename_i e; subst e; rw [h _ (Nat.le_refl _)] at hb; cases hb
  · exact hb
theorem WF.push {H : IH} (h : WF H) (o : Obj) : WF (H.push o) := fun b hb => by
  simp only [IH.size_push] at hb
  rw [IH.get_push, if_neg (by omega)]
  exact h b (by omega)
theorem Holds.wf {c : Code} {env : Env} {H : IH} {Q : Out → Prop} (h : WF H → Holds P G rd c env H Q) : Holds P G rd c env H Q :=
  fun B F f a w hF hr hR hG henv hm => h hR.fresh B F f a w hF hr hR hG henv hm

def isNew (o : Oper) : Bool := match o.op with
  | .buildSlice .. => true
  | _ => false
def calmF (o : Oper) : Bool := calm o || isNew o
def isLoad (o : Oper) : Bool := match o.op with
  | .load .. => true
  | _ => false
theorem calm_new {o : Oper} (h : calm o = true) : isNew o = false := by
  unfold isNew
  split
  · rename_i heq
    unfold calm clsOf at h
    rw [heq] at h
    simp at h
  · rfl
theorem new_keep {o : Oper} {env : Env} {H : IH} {r : Value × IH} (hc : isNew o = true) (h : iop1 P (iex P good nat 0) nat o env H = .ret r) : ∃ ob, r.2 = H.push ob := by
  unfold isNew at hc
  split at hc
  · rename_i t len parts heq
    unfold iop1 at h
    have e1 : iop P o env H = ibuildSlice P t len (parts.toList.map fun p => (p.1, env.val p.2)) H := by unfold iop; rw [heq]
    rw [e1] at h
    unfold ibuildSlice at h
    split at h
    · split at h
      · split at h
        · split at h
          · split at h
            · cases h; exact ⟨_, rfl⟩
            · cases h
          · cases h
        · cases h
      · cases h
    · cases h
  · cases hc
theorem load_keeps {o : Oper} {env : Env} {H E : IH} {v : Value} (hl : isLoad o = true) (h : iop P o env H = some (.val v H)) (hk : Keeps H E) : iop P o env E = some (.val v E) := by
  unfold isLoad at hl
  split at hl
  · rename_i t a heq
    have e1 : ∀ X, iop P o env X = Step1.ofO X (iloadAt P t (env.val a) X) := fun X => by unfold iop; rw [heq]
    rw [e1] at h ⊢
    have key : iloadAt P t (env.val a) E = some v := by
      cases hi : iloadAt P t (env.val a) H with
      | none => rw [hi] at h; cases h
      | some u =>
        rw [hi] at h
        cases h
        unfold iloadAt at hi ⊢
        split at hi
        · split at hi
          · split at hi
            · split at hi
              · rename_i hlo
                cases hi
                unfold IH.loads at hlo ⊢
                split at hlo
                · rename_i c el fz hg
                  rw [hk _ _ hg]
                  simp only [hlo]
                · cases hlo
              · cases hi
            · cases hi
          · unfold IH.load at hi ⊢
            split at hi
            · rename_i c el fz hg
              rw [hk _ _ hg]
              exact hi
            · cases hi
          · cases hi
        · cases hi
    rw [key]; rfl
  · cases hl
def cntN (l : List Oper) : Nat := l.countP isNew
theorem cntN_cons (o : Oper) (l : List Oper) : cntN (o :: l) = (if isNew o then 1 else 0) + cntN l := by
  unfold cntN; rw [List.countP_cons]; omega

/-- what the run with records came to, out of the run without -/
structure DF (P : Program) (lo : List (Nat × Nat × Nat)) (l : List Oper) (i k : Nat) (env : Env) (H : IH) (eF : Env) (HF : IH) (hs : List IH) (rs : List Rec) : Prop where
  heaps : ∀ m E, m ≤ cntE (l.take k) → (H :: hs)[m]? = some E → Keeps H E
  recs : ∀ r ∈ rs, ∃ j p, r.i = i + j ∧ l[j]? = some r.o ∧ findL r.i lo = some p ∧ (j < k → cntN (l.take j) = 0 → clsOf r.o = .read → iop P r.o r.env H = some (.val r.v H)) ∧
    (∀ d, r.o.dst = some d → d < env.length → ¬ writes l (fun k' => j < k') d → eF.at d = r.v)

theorem alloc_noEff {o : Oper} (h : isAlloc o = true) : isEff o = false := by
  have : clsOf o = .alloc := by simpa [isAlloc] using h
  unfold isEff; rw [this]; rfl
theorem alloc_noNew {o : Oper} (h : isAlloc o = true) : isNew o = false := by
  have : clsOf o = .alloc := by simpa [isAlloc] using h
  unfold isNew
  split
  · rename_i heq
    unfold clsOf at this
    rw [heq] at this
    cases this
  · rfl

theorem df_of (hp : NatPure nat) {ops : Array Oper} {lo : List (Nat × Nat × Nat)} : ∀ (l : List Oper) (i k : Nat) (env : Env) (H : IH) (eF : Env) (HF : IH), (0 < k → WF H) → (∀ o ∈ l.take k, isAlloc o = true ∨ calmF o = true) →
    iopsE P (iex P good nat 0) nat (ops.toList.map (·.dst)) (l.filter fun o => !isAlloc o) env H = .ret (eF, HF) → ∃ hs rs, iopsD P (iex P good nat 0) nat ops lo l i env H = some (eF, HF, hs, rs) ∧ DF P lo l i k env H eF HF hs rs
  | [], i, k, env, H, eF, HF, _, _, h => by
    have h' : (T.ret (env, H) : T (Env × IH)) = .ret (eF, HF) := h
    cases h'
    refine ⟨[], [], rfl, ⟨fun m E hm hE => ?_, fun r hr => by cases hr⟩⟩
    simp [cntE] at hm
    subst hm
    simp at hE
    subst hE
    exact .refl _
  | o :: l, i, k, env, H, eF, HF, hwf, hc, h => by
    have hcl : ∀ o' ∈ l.take (k - 1), isAlloc o' = true ∨ calmF o' = true := by
      intro o' ho'
      cases k with
      | zero => simp at ho'
      | succ k => exact hc o' (by rw [List.take_succ_cons]; exact List.mem_cons_of_mem _ (by simpa using ho'))
    cases hao : isAlloc o with
    | true =>
      rw [List.filter_cons] at h
      simp only [hao, Bool.not_true, Bool.false_eq_true, if_false] at h
      obtain ⟨hs, rs, e1, e2⟩ := df_of hp l (i + 1) (k - 1) env H eF HF (fun hk => hwf (by omega)) hcl h
      refine ⟨hs, rs, by rw [iopsD_cons, hao]; exact e1, ⟨fun m E hm hE => e2.heaps m E ?_ hE, fun r hr => ?_⟩⟩
      · cases k with
        | zero => simp [cntE] at hm ⊢; exact hm
        | succ k =>
          rw [List.take_succ_cons, cntE_cons, alloc_noEff hao] at hm
          simpa using hm
      · obtain ⟨j, p, g1, g2, g3, g4, g5⟩ := e2.recs r hr
        refine ⟨j + 1, p, by omega, by simpa using g2, g3, fun hj hn hcl => g4 (by omega) (by rw [List.take_succ_cons, cntN_cons] at hn; omega) hcl, fun d hd hl hn => g5 d hd hl ?_⟩
        rintro ⟨k', p', q1, q2, q3, q4⟩
        exact hn ⟨k' + 1, p', by omega, by simpa using q2, q3, q4⟩
    | false =>
    rw [List.filter_cons] at h
    simp only [hao, Bool.not_false, if_true] at h
    rw [iopsD_cons, hao]
    simp only [cond_false]
    rw [Eops_cons, ← iwantedE_eq] at h
    unfold goE byWant at h
    have lift : ∀ (v : Value) (H' : IH) (hs : List IH) (rs rs' : List Rec), DF P lo l (i + 1) (k - 1) (env.putD o.dst v) H' eF HF hs rs → (0 < k → Keeps H H') → (0 < k → isNew o = false → H' = H) → (isEff o = false → H' = H) →
        (∀ r ∈ rs', r ∈ rs ∨ (r.i = i ∧ r.o = o ∧ r.env = env ∧ r.v = v ∧ (∃ p, findL i lo = some p) ∧ (0 < k → clsOf o = .read → iop P o env H = some (.val v H)) ∧ (∀ d, o.dst = some d → d < env.length → ¬ writes l (fun _ => True) d → eF.at d = v))) →
        DF P lo (o :: l) i k env H eF HF (consIf (clsOf o).eff H' hs) rs' := by
      intro v H' hs rs rs' de hH hH2 hH3 hr
      refine ⟨fun m E hm hE => ?_, fun r hr' => ?_⟩
      · cases k with
        | zero => simp [cntE] at hm; subst hm; simp at hE; subst hE; exact .refl _
        | succ k =>
          have hH' := hH (by omega)
          rw [List.take_succ_cons, cntE_cons] at hm
          simp only [Nat.add_sub_cancel] at de
          by_cases he : isEff o = true
          · have he' : (clsOf o).eff = true := he
            rw [he'] at hE
            cases m with
            | zero => simp at hE; subst hE; exact .refl _
            | succ m =>
              rw [if_pos he] at hm
              exact hH'.trans (de.heaps m E (by omega) (by simpa [consIf] using hE))
          · have he' : (clsOf o).eff = false := by simpa [isEff] using he
            rw [he'] at hE
            rw [if_neg he] at hm
            have := hH3 (by simpa using he)
            subst this
            exact de.heaps m E (by omega) (by simpa [consIf] using hE)
      · rcases hr r hr' with h1 | ⟨h1, h2, h3, h4, ⟨p, h5⟩, h6, h7⟩
        · obtain ⟨j, p, g1, g2, g3, g4, g5⟩ := de.recs r h1
          refine ⟨j + 1, p, by omega, by simpa using g2, g3, fun hj hn hcl => ?_, fun d hd hl hn => g5 d hd (by rw [length_putD]; exact hl) ?_⟩
          · rw [List.take_succ_cons, cntN_cons] at hn
            have hH' := hH2 (by omega) (by by_cases hx : isNew o = true <;> simp_all)
            rw [← hH']
            exact g4 (by omega) (by omega) hcl
          · rintro ⟨k', p', q1, q2, q3, q4⟩
            exact hn ⟨k' + 1, p', by omega, by simpa using q2, q3, q4⟩
        · refine ⟨0, p, by omega, by simp [h2], by rw [h1]; exact h5, fun hj _ hcl => ?_, fun d hd hl hn => ?_⟩
          · rw [h2, h3, h4]
            exact h6 (by omega) (by rw [← h2]; exact hcl)
          · rw [h4]
            refine h7 d (by rw [← h2]; exact hd) hl ?_
            rintro ⟨k', p', _, q2, q3, q4⟩
            exact hn ⟨k' + 1, p', by omega, by simpa using q2, q3, q4⟩
    split at h
    · rename_i hw
      rw [hw]
      cases ht : iop1 P (iex P good nat 0) nat o env H with
      | fail => rw [ht] at h; cases h
      | ch n k => rw [ht] at h; cases h
      | sp p k => rw [ht] at h; cases h
      | ret q =>
        rw [ht] at h
        have h2 : iopsE P (iex P good nat 0) nat (ops.toList.map (·.dst)) (l.filter fun o => !isAlloc o) (env.putD o.dst q.1) q.2 = .ret (eF, HF) := h
        have hcase : 0 < k → (calm o = true ∧ q.2 = H) ∨ (isNew o = true ∧ ∃ ob, q.2 = H.push ob) := by
          intro hk
          cases k with
          | zero => omega
          | succ k =>
            have := hc o (by rw [List.take_succ_cons]; exact List.mem_cons_self)
            rw [hao] at this
            have hcf : calmF o = true := by simpa using this
            unfold calmF at hcf
            by_cases hcm : calm o = true
            · exact .inl ⟨hcm, calm_keep hp hcm ht⟩
            · have hn : isNew o = true := by simpa [hcm] using hcf
              exact .inr ⟨hn, new_keep hn ht⟩
        have hwf' : 0 < k - 1 → WF q.2 := by
          intro hk
          rcases hcase (by omega) with ⟨_, e⟩ | ⟨_, ob, e⟩
          · rw [e]; exact hwf (by omega)
          · rw [e]; exact (hwf (by omega)).push ob
        obtain ⟨hs, rs, e1, e2⟩ := df_of hp l (i + 1) (k - 1) _ _ eF HF hwf' hcl h2
        have htr := iopsD_trace l _ _ _ _ _ _ _ e1
        refine ⟨consIf (clsOf o).eff q.2 hs, recIf (findL i lo) i o env q.1 rs, by simp only [byWant, thenD, Out1, consD, e1], lift q.1 q.2 hs rs _ e2 ?_ ?_ ?_ ?_⟩
        · intro hk
          rcases hcase hk with ⟨_, e⟩ | ⟨_, ob, e⟩
          · rw [e]; exact .refl _
          · rw [e]; exact (hwf hk).keeps ob
        · intro hk hnn
          rcases hcase hk with ⟨_, e⟩ | ⟨hn, _⟩
          · exact e
          · rw [hn] at hnn; cases hnn
        · intro hne
          exact (iop1_calm hne hao ht).1
        · intro r hr
          unfold recIf at hr
          split at hr
          · rename_i p hp'
            rcases List.mem_cons.1 hr with rfl | hr
            · refine .inr ⟨rfl, rfl, rfl, rfl, ⟨p, hp'⟩, fun hk hrd => ?_, fun d hd hl hn => ?_⟩
              · have hne : isEff o = false := by unfold isEff; rw [hrd]; rfl
                obtain ⟨g1, g2⟩ := iop1_calm hne hao ht
                exact g2
              · rw [htr.keep d hn, hd, at_putD_eq hl]
            · exact .inl hr
          · exact .inl hr
    · rename_i hw
      rw [hw]
      obtain ⟨hs, rs, e1, e2⟩ := df_of hp l (i + 1) (k - 1) _ _ eF HF (fun hk => hwf (by omega)) hcl h
      exact ⟨consIf (clsOf o).eff H hs, rs, by simp only [byWant, consS, e1], lift undef H hs rs _ e2 (fun _ => .refl _) (fun _ _ => rfl) (fun _ => rfl) fun r hr => .inl hr⟩
    · cases h

/-- the reads that are loose: ahead of all new slices, plain loads -/
def looseFirst (ops : Array Oper) (lo : List (Nat × Nat × Nat)) (k : Nat) : Bool := lo.all fun p => decide (p.1 < k) && (decide (p.2.2 ≤ cntE (ops.toList.take k)) && (decide (cntN (ops.toList.take p.1) = 0) && ((ops[p.1]?).map isLoad == some true)))
theorem fresh0 {H1 : IH} {hs : List IH} : ∀ (al : List Nat) (b : Nat), al.all (fun x => Nat.beq x 0) = true → freshAll H1 hs al b = true
  | [], _, _ => rfl
  | x :: al, b, h => by
    simp only [List.all_cons, Bool.and_eq_true] at h
    have hx : x = 0 := Nat.eq_of_beq_eq_true h.1
    subst hx
    have hdef : freshAll H1 hs (0 :: al) b = cond (sameFst b (H1.get b) hs 0) (freshAll H1 hs al (b + 1)) false := rfl
    have h0 : sameFst b (H1.get b) hs 0 = true := by cases hs <;> rfl
    rw [hdef, h0]
    exact fresh0 al (b + 1) h.2

theorem idraw_ofF (hp : NatPure nat) {ops : Array Oper} {env envA env1 : Env} {H HA H1 : IH} (k : Nat) (hwf : WF HA) (hd : drawOk ops = true) (hA : iopsA P ops.toList env H = some (envA, HA)) (hal : (allocs ops).all (fun x => Nat.beq x 0) = true)
    (hc : ((ops.toList.take k).all fun o => isAlloc o || calmF o) = true)
    (hl : looseFirst ops (loose ops) k = true) (hlen : ∀ p ∈ loose ops, dstOf ops p.1 < envA.length ∧ ((ops[p.1]?).bind (·.dst)).isSome = true) (hs : ∀ p ∈ loose ops, simple (env1.at (dstOf ops p.1)) = true)
    (h : iopsE P (iex P good nat 0) nat (ops.toList.map (·.dst)) (ops.toList.filter fun o => !isAlloc o) envA HA = .ret (env1, H1)) : idraw P (iex P good nat 0) nat ops env H = some (env1, H1) := by
  obtain ⟨hs', rs, e1, e2⟩ := df_of (lo := loose ops) hp ops.toList 0 k envA HA env1 H1 (fun _ => hwf) (fun o ho => by have := List.all_eq_true.1 hc o ho; simpa using this) h
  unfold idraw
  rw [hA]
  simp only [e1, drawEnd]
  have hst : allR (stableAt P (loose ops) (HA :: hs')) rs = true := by
    rw [allR_iff]
    intro r hr
    obtain ⟨j, p, h1, h2, h3, h4, h5⟩ := e2.recs r hr
    have hm := findL_mem _ h3
    have hle := List.all_eq_true.1 hl _ hm
    simp only [Bool.and_eq_true, decide_eq_true_eq, beq_iff_eq] at hle
    obtain ⟨hle1, hle2, hle3, hle4⟩ := hle
    have hj : r.i = j := by omega
    have hoj : ops[r.i]? = some r.o := by rw [hj]; simpa using h2
    have hrd := loose_read hm hoj
    have hv := h4 (by omega) (by rw [← hj]; exact hle3) hrd
    have hload : isLoad r.o = true := by simpa [hoj] using hle4
    unfold stableAt
    simp only [h3]
    refine stable_of _ 0 fun q E hq hq1 hq2 => ?_
    have hE := e2.heaps q E (by omega) hq
    rw [load_keeps hload hv hE]
    have hsm := hs _ hm
    obtain ⟨hlt, hsome⟩ := hlen _ hm
    simp only [hoj, Option.bind_some] at hsome
    obtain ⟨d, hdd⟩ := Option.isSome_iff_exists.1 hsome
    have hdst : dstOf ops r.i = d := by unfold dstOf; rw [hoj]; simp [hdd]
    simp only [hdst] at hlt hsm
    have hst := stat_of hd
    have heq := h5 d hdd hlt (by
      rintro ⟨k', p', q1, q2, q3, q4⟩
      exact hst.dst j k' r.o p' d (by omega) (by rw [← hj]; exact hoj) (by simpa using q2) hdd q4)
    show veq r.v r.v = true
    rw [← heq]
    exact veq_simple hsm
  rw [hst, fresh0 _ _ hal]
  rfl
theorem iopsA_keeps : ∀ (l : List Oper) (env e : Env) (H H' : IH), WF H → iopsA P l env H = some (e, H') → WF H'
  | [], _, _, _, _, hw, h => by cases h; exact hw
  | o :: l, env, e, H, H', hw, h => by
    unfold iopsA at h
    split at h
    · rename_i hal
      split at h
      · rename_i v H1 hi
        refine iopsA_keeps l _ _ _ _ ?_ h
        have hcl : clsOf o = .alloc := by simpa [isAlloc] using hal
        have hop : ∃ t, o.op = .alloc t := by
          unfold clsOf at hcl
          split at hcl <;> (try cases hcl) <;> (first | exact ⟨_, by assumption⟩ | skip)
          all_goals (split at hcl <;> cases hcl)
        obtain ⟨t, ht⟩ := hop
        have e1 : iop P o env H = ialloc P t H := by unfold iop; rw [ht]
        rw [e1] at hi
        unfold ialloc at hi
        split at hi
        · cases hi; exact hw.push _
        · cases hi
      · cases h
    · exact iopsA_keeps l _ _ _ _ hw h

theorem Setup.drawF (s : Setup P good nat G) (hp : NatPure nat) (k : Nat) {id : Nat} {ops : Array Oper} {env envA env1 : Env} {H HA H1 : IH} {Q : Out → Prop} {ds : List (Option Tmp)} {lo : List (Nat × Nat × Nat)} {l : List Oper} (hok : opsOk G ops = true) (hd : drawOk ops = true)
    (hal : (allocs ops).all (fun x => Nat.beq x 0) = true) (hc : ((ops.toList.take k).all fun o => isAlloc o || calmF o) = true) (hlo : loose ops = lo) (hl : looseFirst ops lo k = true)
    (hlen : lo.all (fun p => ((ops[p.1]?).bind (·.dst)).isSome) = true) (hds : ops.toList.map (·.dst) = ds) (hl2 : (ops.toList.filter fun o => !isAlloc o) = l) (hA : iopsA P ops.toList env H = some (envA, HA))
    (h : iopsE P (iex P good nat 0) nat ds l envA HA = .ret (env1, H1)) (hs : (lo.all fun p => Nat.blt (dstOf ops p.1) envA.length && simple (env1.at (dstOf ops p.1))) = true) (hq : Q ⟨.normal, env1, H1⟩) : Holds P G rd (.region id ops true) env H Q := by
  subst hds hlo hl2
  refine Holds.wf fun hwf => ?_
  have hs' : ∀ p ∈ loose ops, dstOf ops p.1 < envA.length ∧ simple (env1.at (dstOf ops p.1)) = true := fun p hp' => by
    have := List.all_eq_true.1 hs p hp'
    simp only [Bool.and_eq_true] at this
    exact ⟨Nat.le_of_ble_eq_true this.1, this.2⟩
  have hi := idraw_ofF hp k (iopsA_keeps _ _ _ _ _ hwf hA) hd hA hal hc hl (fun p hp' => ⟨(hs' p hp').1, List.all_eq_true.1 hlen p hp'⟩) (fun p hp' => (hs' p hp').2) h
  exact s.draw 0 hok hd hi hq
theorem iopsA_nil {env : Env} {H : IH} : iopsA P [] env H = some (env, H) := rfl
theorem iopsA_other {o : Oper} {l : List Oper} {env : Env} {H : IH} (h : isAlloc o = false) : iopsA P (o :: l) env H = iopsA P l env H := by
  rw [iopsA, h]; rfl
theorem iopsA_alloc {d : Option Tmp} {t ty : TypeId} {p : String} {a : Array Edge} {l : List Oper} {env : Env} {H H1 : IH} {v : Value} (h : ialloc P t H = some (.val v H1)) : iopsA P (⟨d, .alloc t, ty, p, a, none⟩ :: l) env H = iopsA P l (env.putD d v) H1 := by
  have e1 : isAlloc ⟨d, .alloc t, ty, p, a, none⟩ = true := rfl
  have e2 : iop P ⟨d, .alloc t, ty, p, a, none⟩ env H = some (.val v H1) := h
  rw [iopsA, e1, e2]; rfl

theorem filter_noAlloc {l : List Oper} (h : (l.all fun o => !isAlloc o) = true) : (l.filter fun o => !isAlloc o) = l := List.filter_eq_self.2 fun o ho => List.all_eq_true.1 h o ho
theorem allocs_none {ops : Array Oper} (h : (ops.toList.all fun o => !isAlloc o) = true) : allocs ops = [] := by
  unfold allocs allocsOf
  have : (ops.toList.zipIdx.filter fun p => isAlloc p.1) = [] := by
    rw [List.filter_eq_nil_iff]
    intro p hp'
    have h1 : ops.toList[p.2]? = some p.1 := mem_zip.1 (show (p.1, p.2) ∈ ops.toList.zipIdx from hp')
    have h2 := List.all_eq_true.1 h p.1 (List.mem_of_getElem? h1)
    simpa using h2
  rw [this]; rfl
theorem Setup.drawN (s : Setup P good nat G) (hp : NatPure nat) (k : Nat) {id : Nat} {ops : Array Oper} {env env1 : Env} {H H1 : IH} {Q : Out → Prop} {ds : List (Option Tmp)} {lo : List (Nat × Nat × Nat)} (hok : opsOk G ops = true) (hd : drawOk ops = true)
    (ha : (ops.toList.all fun o => !isAlloc o) = true) (hc : ((ops.toList.take k).all fun o => isAlloc o || calmF o) = true) (hlo : loose ops = lo) (hl : looseFirst ops lo k = true)
    (hlen : lo.all (fun p => ((ops[p.1]?).bind (·.dst)).isSome) = true) (hds : ops.toList.map (·.dst) = ds)
    (h : iopsE P (iex P good nat 0) nat ds ops.toList env H = .ret (env1, H1)) (hs : (lo.all fun p => Nat.blt (dstOf ops p.1) env.length && simple (env1.at (dstOf ops p.1))) = true) (hq : Q ⟨.normal, env1, H1⟩) : Holds P G rd (.region id ops true) env H Q :=
  s.drawF hp k hok hd (by rw [allocs_none ha]; rfl) hc hlo hl hlen hds (filter_noAlloc ha) (iopsA_none _ _ _ fun o ho => by have := List.all_eq_true.1 ha o ho; simpa using this) h hs hq
end Go.Idl

namespace Go.Idl
variable {P : Program} {good : FuncId → Bool} {nat : Nats} {G : Nat → Bool} {rd : Bool}

/-- the operations with the heap behind each that may turn it, the last one first -/
noncomputable def iopsXE (P : Program) (run : Job → IH → T Out) (nat : Nats) (ds : List (Option Tmp)) : List Oper → Env → IH → List IH → T (Env × IH × List IH)
  | [], env, H, hs => .ret (env, H, hs)
  | o :: l, env, H, hs => byWant (iwantedE ds o env) ((iop1 P run nat o env H).bind fun r => iopsXE P run nat ds l (env.putD o.dst r.1) r.2 (consIf (clsOf o).eff r.2 hs)) (iopsXE P run nat ds l (env.putD o.dst undef) H (consIf (clsOf o).eff H hs)) .fail
theorem X_nil {run : Job → IH → T Out} {ds : List (Option Tmp)} {env : Env} {H : IH} {hs : List IH} : iopsXE P run nat ds [] env H hs = .ret (env, H, hs) := Eq.trans rfl rfl
noncomputable def thenX (P : Program) (run : Job → IH → T Out) (nat : Nats) (ds : List (Option Tmp)) (d : Option Tmp) (c : Bool) (l : List Oper) (env : Env) (hs : List IH) (t : T (Value × IH)) : T (Env × IH × List IH) := t.bind fun r => iopsXE P run nat ds l (env.putD d r.1) r.2 (consIf c r.2 hs)
noncomputable def goX (P : Program) (run : Job → IH → T Out) (nat : Nats) (ds : List (Option Tmp)) (o : Oper) (l : List Oper) (env : Env) (H : IH) (hs : List IH) (c : Option Bool) : T (Env × IH × List IH) :=
  byWant c (thenX P run nat ds o.dst (clsOf o).eff l env hs (iop1 P run nat o env H)) (iopsXE P run nat ds l (env.putD o.dst undef) H (consIf (clsOf o).eff H hs)) .fail
theorem X_cons {run : Job → IH → T Out} {ds : List (Option Tmp)} {o : Oper} {l : List Oper} {env : Env} {H : IH} {hs : List IH} : iopsXE P run nat ds (o :: l) env H hs = goX P run nat ds o l env H hs (iwantedE ds o env) := Eq.trans rfl rfl
theorem goX_true {run : Job → IH → T Out} {ds : List (Option Tmp)} {o : Oper} {l : List Oper} {env : Env} {H : IH} {hs : List IH} : goX P run nat ds o l env H hs (some true) = thenX P run nat ds o.dst (clsOf o).eff l env hs (iop1 P run nat o env H) := Eq.trans rfl rfl
theorem goX_false {run : Job → IH → T Out} {ds : List (Option Tmp)} {o : Oper} {l : List Oper} {env : Env} {H : IH} {hs : List IH} : goX P run nat ds o l env H hs (some false) = iopsXE P run nat ds l (env.putD o.dst undef) H (consIf (clsOf o).eff H hs) := Eq.trans rfl rfl
theorem thenX_ret {run : Job → IH → T Out} {ds : List (Option Tmp)} {d : Option Tmp} {c : Bool} {l : List Oper} {env : Env} {hs : List IH} {v : Value} {H : IH} : thenX P run nat ds d c l env hs (.ret (v, H)) = iopsXE P run nat ds l (env.putD d v) H (consIf c H hs) := Eq.trans rfl rfl
theorem consIf_true {α : Type} (a : α) (l : List α) : consIf true a l = a :: l := rfl
theorem consIf_false {α : Type} (a : α) (l : List α) : consIf false a l = l := rfl

structure DX (P : Program) (lo : List (Nat × Nat × Nat)) (l : List Oper) (i : Nat) (env : Env) (eF : Env) (rs : List Rec) : Prop where
  recs : ∀ r ∈ rs, ∃ j p, r.i = i + j ∧ l[j]? = some r.o ∧ findL r.i lo = some p ∧
    (∀ d, r.o.dst = some d → d < env.length → ¬ writes l (fun k' => j < k') d → eF.at d = r.v) ∧ (∀ x, ¬ writes l (fun k' => j ≤ k') x → eF.at x = r.env.at x)

theorem dx_of {ops : Array Oper} {lo : List (Nat × Nat × Nat)} : ∀ (l : List Oper) (i : Nat) (env : Env) (H : IH) (hs0 : List IH) (eF : Env) (HF : IH) (hF : List IH),
    iopsXE P (iex P good nat 0) nat (ops.toList.map (·.dst)) (l.filter fun o => !isAlloc o) env H hs0 = .ret (eF, HF, hF) → ∃ hs rs, iopsD P (iex P good nat 0) nat ops lo l i env H = some (eF, HF, hs, rs) ∧ hF = hs.reverse ++ hs0 ∧ DX P lo l i env eF rs
  | [], i, env, H, hs0, eF, HF, hF, h => by
    have h' : (T.ret (env, H, hs0) : T (Env × IH × List IH)) = .ret (eF, HF, hF) := h
    cases h'
    exact ⟨[], [], rfl, rfl, ⟨fun r hr => by cases hr⟩⟩
  | o :: l, i, env, H, hs0, eF, HF, hF, h => by
    cases hao : isAlloc o with
    | true =>
      rw [List.filter_cons] at h
      simp only [hao, Bool.not_true, Bool.false_eq_true, if_false] at h
      obtain ⟨hs, rs, e1, e2, e3⟩ := dx_of l (i + 1) env H hs0 eF HF hF h
      refine ⟨hs, rs, by rw [iopsD_cons, hao]; exact e1, e2, ⟨fun r hr => ?_⟩⟩
      obtain ⟨j, p, g1, g2, g3, g4, g5⟩ := e3.recs r hr
      refine ⟨j + 1, p, by omega, by simpa using g2, g3, fun d hd hl hn => g4 d hd hl ?_, fun x hn => g5 x ?_⟩
      · rintro ⟨k', p', q1, q2, q3, q4⟩
        exact hn ⟨k' + 1, p', by omega, by simpa using q2, q3, q4⟩
      · rintro ⟨k', p', q1, q2, q3, q4⟩
        exact hn ⟨k' + 1, p', by omega, by simpa using q2, q3, q4⟩
    | false =>
    rw [List.filter_cons] at h
    simp only [hao, Bool.not_false, if_true] at h
    rw [iopsD_cons, hao]
    simp only [cond_false]
    unfold iopsXE at h
    rw [← iwantedE_eq] at h
    unfold byWant at h
    have lift : ∀ (v : Value) (rs rs' : List Rec), DX P lo l (i + 1) (env.putD o.dst v) eF rs →
        (∀ r ∈ rs', r ∈ rs ∨ (r.i = i ∧ r.o = o ∧ r.env = env ∧ r.v = v ∧ (∃ p, findL i lo = some p) ∧ (∀ d, o.dst = some d → d < env.length → ¬ writes l (fun _ => True) d → eF.at d = v) ∧ (∀ x, o.dst ≠ some x → ¬ writes l (fun _ => True) x → eF.at x = env.at x))) →
        DX P lo (o :: l) i env eF rs' := by
      intro v rs rs' de hr
      refine ⟨fun r hr' => ?_⟩
      rcases hr r hr' with h1 | ⟨h1, h2, h3, h4, ⟨p, h5⟩, h6, h7⟩
      · obtain ⟨j, p, g1, g2, g3, g4, g5⟩ := de.recs r h1
        refine ⟨j + 1, p, by omega, by simpa using g2, g3, fun d hd hl hn => g4 d hd (by rw [length_putD]; exact hl) ?_, fun x hn => g5 x ?_⟩
        · rintro ⟨k', p', q1, q2, q3, q4⟩
          exact hn ⟨k' + 1, p', by omega, by simpa using q2, q3, q4⟩
        · rintro ⟨k', p', q1, q2, q3, q4⟩
          exact hn ⟨k' + 1, p', by omega, by simpa using q2, q3, q4⟩
      · refine ⟨0, p, by omega, by simp [h2], by rw [h1]; exact h5, fun d hd hl hn => ?_, fun x hn => ?_⟩
        · rw [h4]
          refine h6 d (by rw [← h2]; exact hd) hl ?_
          rintro ⟨k', p', _, q2, q3, q4⟩
          exact hn ⟨k' + 1, p', by omega, by simpa using q2, q3, q4⟩
        · rw [h3]
          refine h7 x (fun hd => hn ⟨0, o, by omega, by simp, hao, hd⟩) ?_
          rintro ⟨k', p', _, q2, q3, q4⟩
          exact hn ⟨k' + 1, p', by omega, by simpa using q2, q3, q4⟩
    split at h
    · rename_i hw
      rw [hw]
      cases ht : iop1 P (iex P good nat 0) nat o env H with
      | fail => rw [ht] at h; cases h
      | ch n k => rw [ht] at h; cases h
      | sp p k => rw [ht] at h; cases h
      | ret q =>
        rw [ht] at h
        have h2 : iopsXE P (iex P good nat 0) nat (ops.toList.map (·.dst)) (l.filter fun o => !isAlloc o) (env.putD o.dst q.1) q.2 (consIf (clsOf o).eff q.2 hs0) = .ret (eF, HF, hF) := h
        obtain ⟨hs, rs, e1, e2, e3⟩ := dx_of l (i + 1) _ _ _ eF HF hF h2
        have htr := iopsD_trace l _ _ _ _ _ _ _ e1
        refine ⟨consIf (clsOf o).eff q.2 hs, recIf (findL i lo) i o env q.1 rs, by simp only [byWant, thenD, Out1, consD, e1], ?_, lift q.1 rs _ e3 ?_⟩
        · rw [e2]
          cases (clsOf o).eff <;> simp [consIf]
        · intro r hr
          unfold recIf at hr
          split at hr
          · rename_i p hp'
            rcases List.mem_cons.1 hr with rfl | hr
            · refine .inr ⟨rfl, rfl, rfl, rfl, ⟨p, hp'⟩, fun d hd hl hn => ?_, fun x hd hn => ?_⟩
              · rw [htr.keep d hn, hd, at_putD_eq hl]
              · rw [htr.keep x hn, at_putD]
                rw [if_neg (by simp [hd])]
            · exact .inl hr
          · exact .inl hr
    · rename_i hw
      rw [hw]
      obtain ⟨hs, rs, e1, e2, e3⟩ := dx_of l (i + 1) _ _ _ eF HF hF h
      refine ⟨consIf (clsOf o).eff H hs, rs, by simp only [byWant, consS, e1], ?_, lift undef rs _ e3 fun r hr => .inl hr⟩
      rw [e2]
      cases (clsOf o).eff <;> simp [consIf]
    · cases h

/-- a read that is loose yields at a heap what it yielded -/
def LoadIs (P : Program) (ops : Array Oper) (i : Nat) (e : Env) (E : IH) : Prop :=
  match ops[i]? with
  | some o => (match o.op, o.dst with
    | .load t x, some d => iloadAt P t (e.val x) E = some (e.at d)
    | _, _ => False)
  | none => False
def LooseOK (P : Program) (ops : Array Oper) (e : Env) (hs : List IH) : List (Nat × Nat × Nat) → Prop
  | [] => True
  | p :: r => (∀ m E, p.2.1 ≤ m → m ≤ p.2.2 → hs[m]? = some E → LoadIs P ops p.1 e E) ∧ LooseOK P ops e hs r
theorem LooseOK.mem {ops : Array Oper} {e : Env} {hs : List IH} : ∀ {lo : List (Nat × Nat × Nat)}, LooseOK P ops e hs lo → ∀ p ∈ lo, ∀ m E, p.2.1 ≤ m → m ≤ p.2.2 → hs[m]? = some E → LoadIs P ops p.1 e E
  | q :: r, h, p, hp => by
    rcases List.mem_cons.1 hp with rfl | hp
    · exact h.1
    · exact h.2.mem p hp
/-- the loads that are loose: their addresses are not written from there on -/
def staticX (ops : Array Oper) (lo : List (Nat × Nat × Nat)) : Bool := lo.all fun p => match ops[p.1]? with
  | some o => (match o.op with
    | .load _ (.tmp y) => (ops.toList.drop p.1).all fun q => q.dst != some y
    | .load _ _ => true
    | _ => false)
  | none => false

theorem idraw_ofX {ops : Array Oper} {env envA env1 : Env} {H HA H1 : IH} {hF : List IH} (hd : drawOk ops = true) (hA : iopsA P ops.toList env H = some (envA, HA)) (hal : (allocs ops).all (fun x => Nat.beq x 0) = true)
    (hst : staticX ops (loose ops) = true) (hlen : ∀ p ∈ loose ops, dstOf ops p.1 < envA.length ∧ ((ops[p.1]?).bind (·.dst)).isSome = true) (hs : ∀ p ∈ loose ops, simple (env1.at (dstOf ops p.1)) = true)
    (h : iopsXE P (iex P good nat 0) nat (ops.toList.map (·.dst)) (ops.toList.filter fun o => !isAlloc o) envA HA [] = .ret (env1, H1, hF)) (hok : LooseOK P ops env1 (HA :: hF.reverse) (loose ops)) : idraw P (iex P good nat 0) nat ops env H = some (env1, H1) := by
  obtain ⟨hs', rs, e1, e0, e2⟩ := dx_of (lo := loose ops) ops.toList 0 envA HA [] env1 H1 hF h
  have hrev : hF.reverse = hs' := by rw [e0]; simp
  rw [hrev] at hok
  unfold idraw
  rw [hA]
  simp only [e1, drawEnd]
  have hst : allR (stableAt P (loose ops) (HA :: hs')) rs = true := by
    rw [allR_iff]
    intro r hr
    obtain ⟨j, p, h1, h2, h3, h5, h6⟩ := e2.recs r hr
    have hm := findL_mem _ h3
    have hj : r.i = j := by omega
    have hoj : ops[r.i]? = some r.o := by rw [hj]; simpa using h2
    have hsx := List.all_eq_true.1 hst _ hm
    simp only [hoj] at hsx
    unfold stableAt
    simp only [h3]
    refine stable_of _ 0 fun q E hq hq1 hq2 => ?_
    have hL := hok.mem _ hm q E (by simpa using hq1) (by simpa using hq2) hq
    unfold LoadIs at hL
    simp only [hoj] at hL
    have hsm := hs _ hm
    obtain ⟨hlt, hsome⟩ := hlen _ hm
    simp only [hoj, Option.bind_some] at hsome
    obtain ⟨d, hdd⟩ := Option.isSome_iff_exists.1 hsome
    have hdst : dstOf ops r.i = d := by unfold dstOf; rw [hoj]; simp [hdd]
    simp only [hdst] at hlt hsm
    have hstat := stat_of hd
    have heq := h5 d hdd hlt (by
      rintro ⟨k', p', q1, q2, q3, q4⟩
      exact hstat.dst j k' r.o p' d (by omega) (by rw [← hj]; exact hoj) (by simpa using q2) hdd q4)
    rw [hdd] at hL
    split at hL
    · rename_i t x d' hop hd'
      cases hd'
      have hval : r.env.val x = env1.val x := by
        cases x with
        | tmp y =>
          rw [hop] at hsx
          simp only [List.all_eq_true] at hsx
          have := h6 y (by
            rintro ⟨k', p', q1, q2, q3, q4⟩
            have hmem : p' ∈ ops.toList.drop r.i := by
              rw [List.mem_iff_getElem?]
              exact ⟨k' - r.i, by rw [List.getElem?_drop, show r.i + (k' - r.i) = k' by omega]; exact q2⟩
            have := hsx p' hmem
            rw [q4] at this
            simp at this)
          exact this.symm
        | _ => rfl
      have e3 : iop P r.o r.env E = Step1.ofO E (iloadAt P t (r.env.val x) E) := by unfold iop; rw [hop]
      rw [e3, hval, hL]
      show veq r.v (env1.at d) = true
      rw [← heq]
      exact veq_simple hsm
    · exact hL.elim
  rw [hst, fresh0 _ _ hal]
  rfl
theorem Setup.drawX (s : Setup P good nat G) {id : Nat} {ops : Array Oper} {env envA env1 : Env} {H HA H1 : IH} {hF : List IH} {Q : Out → Prop} {ds : List (Option Tmp)} {lo : List (Nat × Nat × Nat)} {l : List Oper} (hok : opsOk G ops = true) (hd : drawOk ops = true)
    (hal : (allocs ops).all (fun x => Nat.beq x 0) = true) (hlo : loose ops = lo) (hl : staticX ops lo = true)
    (hlen : lo.all (fun p => ((ops[p.1]?).bind (·.dst)).isSome) = true) (hds : ops.toList.map (·.dst) = ds) (hl2 : (ops.toList.filter fun o => !isAlloc o) = l) (hA : iopsA P ops.toList env H = some (envA, HA))
    (h : iopsXE P (iex P good nat 0) nat ds l envA HA [] = .ret (env1, H1, hF)) (hs : (lo.all fun p => Nat.blt (dstOf ops p.1) envA.length && simple (env1.at (dstOf ops p.1))) = true) (hk : LooseOK P ops env1 (HA :: hF.reverse) lo) (hq : Q ⟨.normal, env1, H1⟩) : Holds P G rd (.region id ops true) env H Q := by
  subst hds hlo hl2
  have hs' : ∀ p ∈ loose ops, dstOf ops p.1 < envA.length ∧ simple (env1.at (dstOf ops p.1)) = true := fun p hp' => by
    have := List.all_eq_true.1 hs p hp'
    simp only [Bool.and_eq_true] at this
    exact ⟨Nat.le_of_ble_eq_true this.1, this.2⟩
  have hi := idraw_ofX hd hA hal hl (fun p hp' => ⟨(hs' p hp').1, List.all_eq_true.1 hlen p hp'⟩) (fun p hp' => (hs' p hp').2) h hk
  exact s.draw 0 hok hd hi hq
theorem Setup.drawXN (s : Setup P good nat G) {id : Nat} {ops : Array Oper} {env env1 : Env} {H H1 : IH} {hF : List IH} {Q : Out → Prop} {ds : List (Option Tmp)} {lo : List (Nat × Nat × Nat)} (hok : opsOk G ops = true) (hd : drawOk ops = true)
    (ha : (ops.toList.all fun o => !isAlloc o) = true) (hlo : loose ops = lo) (hl : staticX ops lo = true)
    (hlen : lo.all (fun p => ((ops[p.1]?).bind (·.dst)).isSome) = true) (hds : ops.toList.map (·.dst) = ds)
    (h : iopsXE P (iex P good nat 0) nat ds ops.toList env H [] = .ret (env1, H1, hF)) (hs : (lo.all fun p => Nat.blt (dstOf ops p.1) env.length && simple (env1.at (dstOf ops p.1))) = true) (hk : LooseOK P ops env1 (H :: hF.reverse) lo) (hq : Q ⟨.normal, env1, H1⟩) : Holds P G rd (.region id ops true) env H Q :=
  s.drawX hok hd (by rw [allocs_none ha]; rfl) hlo hl hlen hds (filter_noAlloc ha) (iopsA_none _ _ _ fun o ho => by have := List.all_eq_true.1 ha o ho; simpa using this) h hs hk hq
end Go.Idl

namespace Go.Idl
variable {P : Program}
theorem load_cell {t : TypeId} (ht : aggT P t = some false) {H : IH} {b i : Nat} {l : List Value} {el : TypeId} {fz : Nat × Nat} {v : Value} (h : H.get b = some (.cells l.toArray el fz)) (hv : l[i]? = some v) : iloadAt P t (.pointer (some ⟨b, i, none⟩)) H = some v := by
  refine load_one ht ?_
  unfold IH.load
  rw [h]
  simpa using hv
theorem store_cell {t : TypeId} (ht : szT P t = some 1) {H : IH} {b i : Nat} {l : List Value} {el : TypeId} {fz : Nat × Nat} {v : Value} (hv : v.cells = #[v]) (h1 : oneCell v = true) (h : H.get b = some (.cells l.toArray el fz)) (hi : i < l.length) (hf : freeFz fz = true) (hb : H.base ≤ b) :
    istoreAt P t (.pointer (some ⟨b, i, none⟩)) v H = some (H.put b (.cells (l.set i v).toArray el fz)) := by
  unfold istoreAt
  simp only [ht, hv]
  rw [if_pos (by rfl)]
  unfold IH.stores
  rw [h]
  simp only
  rw [if_pos]
  · congr 3
    apply Array.ext'
    show overwrite l i [v] = _
    unfold overwrite
    simp only [List.length_singleton]
    rw [List.set_eq_take_append_cons_drop, if_pos hi]
    simp
  · simp [hf, hb, h1]; omega
theorem load_agg {t : TypeId} {n : Nat} (ht : aggT P t = some true) (hs : szT P t = some n) {H : IH} {b i : Nat} {l : List Value} {el : TypeId} {fz : Nat × Nat} (h : H.get b = some (.cells l.toArray el fz)) (hl : i + n ≤ l.length) : iloadAt P t (.pointer (some ⟨b, i, none⟩)) H = some (.agg ((l.drop i).take n).toArray) := by
  unfold iloadAt
  simp only [ht, hs]
  unfold IH.loads
  rw [h]
  simp only [List.size_toArray, if_pos hl]
theorem store_agg {t : TypeId} {H : IH} {b i : Nat} {l vs : List Value} {el : TypeId} {fz : Nat × Nat} (hs : szT P t = some vs.length) (h1 : vs.all oneCell = true) (h : H.get b = some (.cells l.toArray el fz)) (hl : i + vs.length ≤ l.length) (hf : freeFz fz = true) (hb : H.base ≤ b) :
    istoreAt P t (.pointer (some ⟨b, i, none⟩)) (.agg vs.toArray) H = some (H.put b (.cells (overwrite l i vs).toArray el fz)) := by
  unfold istoreAt
  have e1 : (Value.agg vs.toArray).cells = vs.toArray := rfl
  simp only [hs, e1, List.size_toArray, if_true]
  unfold IH.stores
  rw [h]
  simp only [List.size_toArray]
  rw [if_pos]
  simp only [hl, hf, hb, h1, decide_true, Bool.and_self]
theorem all_one {α : Type} {f : α → Bool} {p : α} (h : f p = true) : [p].all f = true := by simp [h]
theorem simple_slice {x : Value} {a : Option Addr} {n c : Nat} (h : x = .slice a n c) : simple x = true := by rw [h]; rfl
theorem cells_slice (a : Option Addr) (n c : Nat) : (Value.slice a n c).cells = #[.slice a n c] := rfl
theorem cells_int (k : IntKind) (z : Int) : (Value.int k z).cells = #[.int k z] := rfl
theorem cells_bool (z : Bool) : (Value.bool z).cells = #[.bool z] := rfl
end Go.Idl
