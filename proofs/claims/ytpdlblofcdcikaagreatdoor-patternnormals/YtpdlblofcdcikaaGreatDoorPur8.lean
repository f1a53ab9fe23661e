/- One operation on values without a heap against the ideal one. Conditions: none. -/
import Derived.Test.YtpdlblofcdcikaaGreatDoorPur7
set_option linter.unusedSimpArgs false
set_option linter.unusedVariables false
namespace Go.Idl
variable {P : Program} {Z : Nat → Prop} {H : IH} {M : Nat → Option (Nat × PO)} {m : Nat → Nat} {ph : PHp}

theorem firstZ_take {s n k : Nat} {a : Option Addr} {len c : Nat} {vs : List Value} (h : firstZ s n H (.slice a len c) = some vs) (hk : k ≤ n) : firstZ s k H (.slice a len c) = some (vs.take (k * s)) := by
  by_cases hk0 : k = 0
  · subst hk0; simp [firstZ, lenOfI]
  · unfold firstZ at h ⊢
    rw [if_neg (by omega)] at h
    rw [if_neg hk0]
    unfold firstI at h ⊢
    cases a with
    | none => simp only at h; split at h <;> first | omega | cases h
    | some a =>
      simp only at h ⊢
      unfold IH.loads at h ⊢
      split at h
      · rename_i cc el fz hg
        split at h
        · cases h
          have : k * s ≤ n * s := Nat.mul_le_mul_right _ hk
          rw [if_pos (by omega), List.take_take]
          congr 2; omega
        · cases h
      · cases h
theorem own_same {j : Nat} {ob : PO} (hl : plook j ph = some ob) : own m (pset j ob ph) = own m ph := by
  funext k
  unfold own
  rw [plook_set]
  by_cases h : k = j
  · subst h; rw [if_pos ⟨rfl, by rw [hl]; rfl⟩, hl]
  · rw [if_neg (fun h' => h h'.1)]
theorem over_nil {l : List PV} {i : Nat} : pover l i [] = l := by unfold pover; simp
theorem pcopy_ok {p : Nat → Bool} {ts : List TypeId} {base x y : PV} {vb vx : Value} {ph' : PHp} (hp : Hp P Z H (own m ph)) (hbase : VR P Z H (own m ph) base vb) (hx : VR P Z H (own m ph) x vx) (h : pcopy P ts base x ph = some (y, ph')) :
    Res P Z H m ph p y ph' (icopy P ts.toArray [vb, vx] H) := by
  unfold pcopy at h
  split at h
  · rename_i st xt
    split at h
    · rename_i el el2 he he2
      split at h
      · rename_i s hs
        split at h
        · rename_i mm new hnew
          obtain ⟨vs, a, c, rfl, hf, hr, hlen⟩ := pnews_ok hp hx hnew
          have icp : ∀ bs n cap, icopy P #[st, xt] [.slice bs n cap, .slice a mm c] H = icopyEnd bs (Nat.min mm n) (vs.take (Nat.min mm n * (s + 1))) H := fun bs n cap => by
            unfold icopy
            have hs' : szT P el = some (s + 1) := hs
            simp only [elemT_inv he, hs', lenOfI, firstZ_take hf (Nat.min_le_left mm n)]
          split at h
          · rename_i j tt o n
            split at h
            · rename_i ob hl
              cases hc : (Nat.beq ob.el el && (Nat.beq (tt * (s + 1)) ob.cs.length && (Nat.beq new.length (mm * (s + 1)) && new.all pone))) with
              | false => rw [hc] at h; cases h
              | true =>
                rw [hc] at h; cases h
                simp only [Bool.and_eq_true] at hc
                obtain ⟨c1, c2, c3, c4⟩ := hc
                have e1 := Nat.eq_of_beq_eq_true c1
                have e2 := Nat.eq_of_beq_eq_true c2
                subst e1
                have hv1 := hr.one c4
                obtain ⟨hO, hpos⟩ := own_live hbase hl hs e2
                rw [show ([st, xt] : List TypeId).toArray = #[st, xt] from rfl]
                have same : ∀ s', (s' = some (.val (goInt (Nat.min mm n)) H)) → new.take (Nat.min mm n * (s + 1)) = [] → Res P Z H m ph p (fvv (.int .i64 ((Nat.min mm n : Nat) : Int))) (pset j { ob with cs := pover ob.cs (o * (s + 1)) (new.take (Nat.min mm n * (s + 1))) } ph) s' := fun s' hs' h0 => by
                  rw [h0, over_nil]
                  have e : own m (pset j { ob with cs := ob.cs } ph) = own m ph := own_same hl
                  refine ⟨goInt (Nat.min mm n), H, Z, m, hs', ?_, fvv_ok rfl, ?_, ?_⟩
                  · rw [e]; exact hp
                  · rw [e]; exact .refl _ _ _
                  · rw [e]; exact .refl _ _
                rcases hO with ⟨g1, rfl, rfl, rfl, rfl⟩ | ⟨g1, g2, g3, rfl⟩
                · rw [icp]
                  exact same _ rfl (by simp)
                · have hre := own_real e2 hpos g1
                  obtain ⟨w1, w2, w3, ws, q1, q2, q3⟩ := hp.real hl hre
                  rw [icp]
                  by_cases h0 : (vs.take (Nat.min mm n * (s + 1))) = []
                  · rw [h0]
                    refine same _ rfl ?_
                    have := (hr.take (Nat.min mm n * (s + 1))).len
                    rw [h0] at this
                    exact List.length_eq_zero_iff.1 this
                  · have hle : (o + n) * (s + 1) ≤ tt * (s + 1) := Nat.mul_le_mul_right _ g2
                    rw [Nat.add_mul] at hle
                    have hmn : Nat.min mm n * (s + 1) ≤ n * (s + 1) := Nat.mul_le_mul_right _ (Nat.min_le_right mm n)
                    have hlt : (new.take (Nat.min mm n * (s + 1))).length ≤ n * (s + 1) := by simp only [List.length_take]; omega
                    have h1 : (vs.take (Nat.min mm n * (s + 1))).all oneCell = true := by
                      rw [List.all_eq_true] at hv1 ⊢
                      exact fun x hx => hv1 x (List.mem_of_mem_take hx)
                    obtain ⟨r1, r2, r3⟩ := hp.put (cs := pover ob.cs (o * (s + 1)) (new.take (Nat.min mm n * (s + 1)))) hl hre (over_len (by omega)) (q2.over (hr.take (Nat.min mm n * (s + 1))) (o * (s + 1))) (over_one q3 h1)
                    refine ⟨goInt (Nat.min mm n), _, Z, m, ?_, r1, fvv_ok rfl, r2, r3 _⟩
                    unfold icopyEnd
                    have hne : (vs.take (Nat.min mm n * (s + 1))).isEmpty = false := by
                      cases hq : vs.take (Nat.min mm n * (s + 1)) with
                      | nil => exact absurd hq h0
                      | cons => rfl
                    simp only [hne, Bool.false_eq_true, if_false]
                    have hst : H.stores (m j) (o * (s + 1)) (vs.take (Nat.min mm n * (s + 1))) = some (H.put (m j) (.cells (overwrite ws (o * (s + 1)) (vs.take (Nat.min mm n * (s + 1)))).toArray ob.el (cond ob.gr roomFz (0, 0)))) := by
                      unfold IH.stores
                      rw [q1]
                      simp only []
                      rw [if_pos]
                      simp only [free_gr, h1, w2, decide_true, Bool.and_true, Bool.true_and, decide_eq_true_eq, List.size_toArray]
                      rw [← q2.len, ← (hr.take (Nat.min mm n * (s + 1))).len]; omega
                    rw [hst]
            · cases h
          · cases h
            obtain ⟨ab, cb, rfl⟩ := l_slice hbase
            have h0 : Nat.min mm 0 = 0 := Nat.min_zero mm
            refine .same ?_ hp (fvv_ok (v := .int .i64 0) rfl)
            rw [show ([st, xt] : List TypeId).toArray = #[st, xt] from rfl, icp, h0]
            cases ab <;> simp [icopyEnd, goInt]
          · cases h
            have := pl_ok hbase rfl
            subst this
            have h0 : Nat.min mm 0 = 0 := Nat.min_zero mm
            refine .same ?_ hp (fvv_ok (v := .int .i64 0) rfl)
            rw [show ([st, xt] : List TypeId).toArray = #[st, xt] from rfl, icp, h0]
            simp [icopyEnd, goInt]
          · cases h
        · cases h
      · cases h
    · cases h
  · cases h

theorem pp1_inv {o : Option PV} {y : PV} {ph' : PHp} (h : pp1 ph o = some (y, ph')) : o = some y ∧ ph' = ph := by
  unfold pp1 at h
  split at h
  · cases h; exact ⟨rfl, rfl⟩
  · cases h
theorem VRL.of {env : List PV} {ienv : Env} (he : VRL P Z H M env ienv) : ∀ (l : List Operand), VRL P Z H M (l.map (pval env)) (l.map ienv.val)
  | [] => .nil
  | x :: l => .cons (pval_ok he x) (VRL.of he l)
theorem noK_val {k : Nat} {env : List PV} (h : noKL k env = true) (x : Operand) : noK k (pval env x) = true := by
  cases x with
  | tmp t =>
    show noK k ((nthR env t).getD .unk) = true
    rw [nthR_eq]
    cases he : env[t]? with
    | none => rfl
    | some y => exact noKL_get h he
  | const v =>
    show noK k (ofC v) = true
    unfold ofC ofC1
    split
    · rename_i cs; cases allR okC cs.toList with
      | true => exact noK_fvv k _
      | false => rfl
    · rename_i cs; cases allR okC cs.toList with
      | true => exact noK_fvv k _
      | false => rfl
    · cases okC v <;> rfl
  | global g => rfl
  | func g => rfl
theorem noKL_map {k : Nat} {env : List PV} (h : noKL k env = true) : ∀ (l : List (Nat × Operand)), noKL k ((l.map fun p => (p.1, pval env p.2)).map (·.2)) = true
  | [] => rfl
  | p :: l => by simp only [List.map_cons, noKL, noK_val h, noKL_map h l, Bool.and_self]
theorem Res.up {p q : Nat → Bool} {v : PV} {ph' : PHp} {s : Option Step1} (h : Res P Z H m ph p v ph' s) (hq : ∀ j, p j = true → q j = true) : Res P Z H m ph q v ph' s := by
  obtain ⟨u, H', Z', m', h1, h2, h3, h4, h5⟩ := h
  exact ⟨u, H', Z', m', h1, h2, h3, h4, fun j b ob hM => by
    rcases h5 j b ob hM with h | h | h
    · exact .inl h
    · exact .inr (.inl h)
    · exact .inr (.inr (hq j h))⟩

def nw (o : Op) (k : Nat) : Nat → Bool := fun j => needs o && (j == k)
theorem pop1_ok {o : Oper} {env : List PV} {ienv : Env} {k : Nat} {y : PV} {ph' : PHp} (hp : Hp P Z H (own m ph)) (hb : H.base ≤ H.size) (he : VRL P Z H (own m ph) env ienv) (hn : needs o.op = true → noKL k env = true ∧ noKH k ph = true) (h : pop1 P o env k ph = some (y, ph')) :
    Res P Z H m ph (nw o.op k) y ph' (iop P o ienv H) := by
  obtain ⟨d, op, ty, pos, aft, g⟩ := o
  have fin : ∀ {x : PV} {s : Option Step1}, (∃ u, s = some (.val u H) ∧ VR P Z H (own m ph) x u) → Res P Z H m ph (nw op k) x ph s := fun ⟨u, h1, h2⟩ => .same h1 hp h2
  have finO : ∀ {x : PV} {s : Option Value}, (∃ u, s = some u ∧ VR P Z H (own m ph) x u) → Res P Z H m ph (nw op k) x ph (Step1.ofO H s) := fun ⟨u, h1, h2⟩ => .same (by rw [h1]; rfl) hp h2
  cases op <;> simp only [pop1] at h <;> (try (cases h; done)) <;> simp only at hn fin finO
  case move x => cases h; exact fin ⟨_, rfl, pval_ok he x⟩
  case assign x => cases h; exact fin ⟨_, rfl, pval_ok he x⟩
  case pick c a b =>
    split at h
    · rename_i t ht
      cases h
      have hc := pval_ok he c
      rw [ht] at hc
      have hv := pl_ok hc rfl
      refine fin ⟨cond t (ienv.val a) (ienv.val b), ?_, ?_⟩
      · show ipick (ienv.val c) _ _ H = _
        rw [hv]; rfl
      · cases t
        · exact pval_ok he b
        · exact pval_ok he a
    · cases h
  case alloc el =>
    obtain ⟨n1, n2⟩ := hn rfl
    exact (palloc_ok hp hb n2 h).up fun j hj => hj
  case box el x =>
    obtain ⟨n1, n2⟩ := hn rfl
    exact (pbox_ok hp hb n2 (pval_ok he x) (noK_val n1 x) h).up fun j hj => hj
  case build t ps =>
    obtain ⟨h1, rfl⟩ := pp1_inv h
    exact finO (pbuild_ok (pvs_of he _) h1)
  case buildSlice t len ps =>
    obtain ⟨n1, n2⟩ := hn rfl
    exact (pbuildSlice_ok hp hb n2 (pvs_of he _) (noKL_map n1 _) h).up fun j hj => hj
  case load t a =>
    obtain ⟨h1, rfl⟩ := pp1_inv h
    exact finO (pload_ok hp (pval_ok he a) h1)
  case store t a x =>
    unfold ppS at h
    split at h
    · rename_i ph1 hs
      cases h
      exact pstore_ok hp (pval_ok he a) (pval_ok he x) hs
    · cases h
  case nilCheck x =>
    obtain ⟨h1, rfl⟩ := pp1_inv h
    obtain ⟨h2, rfl⟩ := pnilCheck_ok (pval_ok he x) h1
    exact fin ⟨_, h2, pval_ok he x⟩
  case binOp op t x z t2 =>
    obtain ⟨h1, rfl⟩ := pp1_inv h
    exact fin (pbin_ok (pval_ok he x) (pval_ok he z) h1)
  case unOp op t x =>
    obtain ⟨h1, rfl⟩ := pp1_inv h
    exact fin (pdry1_ok (pval_ok he x) rfl h1)
  case convert s t x =>
    cases hpt : isPtr (pval env x) with
    | true => rw [hpt] at h; cases h
    | false =>
    rw [hpt] at h
    obtain ⟨h1, rfl⟩ := pp1_inv h
    have hx := pval_ok he x
    obtain ⟨u, h2, h3⟩ := pdry1_ok (o := ⟨d, .convert s t x, ty, pos, aft, g⟩) (env := ienv) hx rfl h1
    refine fin ⟨u, ?_, h3⟩
    show iconvert P _ s t (ienv.val x) ienv H = _
    unfold iconvert
    split
    · rename_i a ha
      exfalso
      unfold pdry1 at h1
      split at h1
      · rename_i b hb'
        have hv := pl_ok hx hb'
        rw [ha] at hv
        subst hv
        unfold pl at hb'
        split at hb'
        · rename_i x0 hx0
          cases hb'
          rw [hx0] at hpt
          cases hpt
        · split at hb' <;> cases hb'
        · cases hb'
      · cases h1
    · exact h2
  case makeFunc fn first cap =>
    obtain ⟨h1, rfl⟩ := pp1_inv h
    exact fin (pmakeFunc_ok (by simpa using VRL.of he first.toList) (by simpa using VRL.of he cap.toList) h1)
  case makeSlice t l c =>
    obtain ⟨n1, n2⟩ := hn rfl
    exact (pmakeSlice_ok hp hb n2 (pval_ok he l) (pval_ok he c) h).up fun j hj => hj
  case slice t x lo hi mx =>
    cases mx with
    | some mx => cases h
    | none =>
      simp only at h
      split at h
      · rename_i s hs
        have hx := pval_ok he x
        rw [hs] at hx
        have hv := pl_ok hx rfl
        split at h
        · rename_i vs hvs
          obtain ⟨h1, rfl⟩ := pp1_inv h
          have hopt : ∀ (w : Option Operand), (∀ a, w = some a → a ∈ lo.toList ++ hi.toList) → (w.map fun a => (Operand.const ((pl (pval env a)).getD undef))).map (Env.val []) = w.map ienv.val := fun w hw => by
            cases w with
            | none => rfl
            | some a =>
              obtain ⟨b, hb'⟩ := plL_mem hvs (pval env a) (List.mem_map.2 ⟨a, hw a rfl, rfl⟩)
              simp only [Option.map_some, hb', Option.getD_some]
              rw [pl_ok (pval_ok he a) hb']
              rfl
          have hlo := hopt lo (fun a ha => by subst ha; simp)
          have hhi := hopt hi (fun a ha => by subst ha; simp)
          obtain ⟨u, h2, h3⟩ := dry_op (M := own m _) (Z := Z) (H := H) (o := ⟨d, .slice t x lo hi none, ty, pos, aft, g⟩) (env := ienv) (by
            have hex : execOp ienv.val ⟨d, .slice t x lo hi none, ty, pos, aft, g⟩ = execOp (Env.val []) (cop (.slice t (.const (.string s)) (lo.map fun a => .const ((pl (pval env a)).getD undef)) (hi.map fun a => .const ((pl (pval env a)).getD undef)) none)) := by
              show (do let x ← Instr.sliceAt t (ienv.val x) (lo.map ienv.val) (hi.map ienv.val) none; pure (Next.value x)) = (do let x ← Instr.sliceAt t (.string s) ((lo.map fun a => (Operand.const ((pl (pval env a)).getD undef))).map (Env.val [])) ((hi.map fun a => (Operand.const ((pl (pval env a)).getD undef))).map (Env.val [])) none; pure (Next.value x))
              rw [hlo, hhi, hv]
            have hpl : mapR ienv.val (Op.slice t x lo hi none).operands.toList = mapR (Env.val []) (cop (.slice t (.const (.string s)) (lo.map fun a => .const ((pl (pval env a)).getD undef)) (hi.map fun a => .const ((pl (pval env a)).getD undef)) none)).op.operands.toList := by
              rw [mapR_eq, mapR_eq]
              cases lo <;> cases hi <;> simp_all [Op.operands, cop, Env.val]
            unfold idry
            rw [hex]
            simp only [hpl]) h1
          refine fin ⟨u, ?_, h3⟩
          show isliceOp P _ t (ienv.val x) _ _ _ ienv H = _
          rw [hv]
          exact h2
        · cases h
      · rename_i v hne
        obtain ⟨h1, rfl⟩ := pp1_inv h
        obtain ⟨u, h2, h3⟩ := pslice_val hp (pval_ok he x) (OptR.of he lo) (OptR.of he hi) h1
        exact fin ⟨u, isliceOp_of h2, h3⟩
  case fieldAddr t x i =>
    obtain ⟨h1, rfl⟩ := pp1_inv h
    exact finO (pfieldAddr_ok (pval_ok he x) h1)
  case field t x i =>
    obtain ⟨h1, rfl⟩ := pp1_inv h
    exact finO (pfield_ok (pval_ok he x) h1)
  case indexAddr t x ix =>
    obtain ⟨h1, rfl⟩ := pp1_inv h
    exact finO (pindexAddr_ok hp (pval_ok he x) (pval_ok he ix) h1)
  case index t x ix =>
    split at h
    · rename_i s j hs hj
      obtain ⟨h1, rfl⟩ := pp1_inv h
      have hx := pval_ok he x
      rw [hs] at hx
      have hv := pl_ok hx rfl
      have hv2 := pl_ok (pval_ok he ix) hj
      obtain ⟨u, h2, h3⟩ := dry_op (M := own m _) (Z := Z) (H := H) (o := ⟨d, .index t x ix, ty, pos, aft, g⟩) (env := ienv) (by rw [← hv, ← hv2]; rfl) h1
      refine fin ⟨u, ?_, h3⟩
      show iindexOp P _ t (ienv.val x) _ ienv H = _
      rw [hv]
      exact h2
    · obtain ⟨h1, rfl⟩ := pp1_inv h
      obtain ⟨u, h2, h3⟩ := pindex_ok (pval_ok he x) (pval_ok he ix) h1
      exact fin ⟨u, iindexOp_of h2, h3⟩
  case extract t i =>
    obtain ⟨h1, rfl⟩ := pp1_inv h
    exact fin (pextract_ok (pval_ok he t) h1)
  case call c =>
    obtain ⟨cal, args, ts⟩ := c
    split at h
    · rename_i b hbq
      simp only at hbq
      subst hbq
      have two : ∀ x z, args.toList = [x, z] → mapR ienv.val args.toList = [ienv.val x, ienv.val z] := fun x z e => by rw [e]; rfl
      unfold pcallB at h
      split at h
      · -- append
        split at h
        · rename_i x z hxz
          obtain ⟨n1, n2⟩ := hn rfl
          obtain ⟨a1, a2, ha, rfl, rfl⟩ : ∃ a1 a2, args.toList = [a1, a2] ∧ x = pval env a1 ∧ z = pval env a2 := by
            cases hq : args.toList with
            | nil => rw [hq] at hxz; cases hxz
            | cons a l =>
              rw [hq] at hxz
              cases l with
              | nil => cases hxz
              | cons a2 l =>
                cases l with
                | nil => simp only [List.map_cons, List.map_nil, List.cons.injEq, and_true] at hxz; exact ⟨a, a2, rfl, hxz.1.symm, hxz.2.symm⟩
                | cons => cases hxz
          have hr := pappend_ok hp hb n2 (pval_ok he a1) (pval_ok he a2) (noK_val n1 a2) (noK_val n1 a1) h
          obtain ⟨u, H', Z', m', e1, e2, e3, e4, e5⟩ := hr
          refine Res.up (p := fun j => j == k) ⟨u, H', Z', m', ?_, e2, e3, e4, e5⟩ fun j hj => hj
          refine icallOp_b ?_
          rw [two _ _ ha]
          rw [show ts.toList.toArray = ts from by simp] at e1
          exact e1
        · cases h
      · -- copy
        split at h
        · rename_i x z hxz
          obtain ⟨a1, a2, ha, rfl, rfl⟩ : ∃ a1 a2, args.toList = [a1, a2] ∧ x = pval env a1 ∧ z = pval env a2 := by
            cases hq : args.toList with
            | nil => rw [hq] at hxz; cases hxz
            | cons a l =>
              rw [hq] at hxz
              cases l with
              | nil => cases hxz
              | cons a2 l =>
                cases l with
                | nil => simp only [List.map_cons, List.map_nil, List.cons.injEq, and_true] at hxz; exact ⟨a, a2, rfl, hxz.1.symm, hxz.2.symm⟩
                | cons => cases hxz
          have hr := pcopy_ok (p := nw (.call ⟨.builtin .copy, args, ts⟩) k) hp (pval_ok he a1) (pval_ok he a2) h
          obtain ⟨u, H', Z', m', e1, e2, e3, e4, e5⟩ := hr
          refine ⟨u, H', Z', m', ?_, e2, e3, e4, e5⟩
          refine icallOp_b ?_
          rw [two _ _ ha]
          rw [show ts.toList.toArray = ts from by simp] at e1
          exact e1
        · cases h
      · -- len
        split at h
        · rename_i x hx0
          obtain ⟨a1, ha, rfl⟩ : ∃ a1, args = #[a1] ∧ x = pval env a1 := by
            cases hq : args.toList with
            | nil => rw [hq] at hx0; cases hx0
            | cons a l =>
              rw [hq] at hx0
              cases l with
              | nil =>
                simp only [List.map_cons, List.map_nil, List.cons.injEq, and_true] at hx0
                exact ⟨a, by have e9 : args = args.toList.toArray := by simp
                             rw [e9, hq], hx0.symm⟩
              | cons => cases hx0
          subst ha
          cases hst : strT P ts with
          | true =>
            rw [hst] at h
            have hnone : ibuiltin P .len ⟨.builtin .len, #[a1], ts⟩ (mapR ienv.val #[a1].toList) H = none := by
              show ilenB P ts [ienv.val a1] H = none
              unfold strT at hst
              split at hst
              · rename_i hu
                unfold ilenB
                rw [hu]
              · cases hst
            obtain ⟨e9, hr⟩ := pcallD_ok (d := d) (pos := pos) (aft := aft) (g := g) he hnone h
            subst e9
            exact fin hr
          | false =>
            rw [hst] at h
            obtain ⟨h1, rfl⟩ := pp1_inv h
            exact fin (plen_ok (pval_ok he a1) h1)
        · cases h
      · obtain ⟨e9, hr⟩ := pcallD_ok (d := d) (pos := pos) (aft := aft) (g := g) he rfl h
        subst e9
        exact fin hr
      · obtain ⟨e9, hr⟩ := pcallD_ok (d := d) (pos := pos) (aft := aft) (g := g) he rfl h
        subst e9
        exact fin hr
      · cases h
    · cases h
end Go.Idl
