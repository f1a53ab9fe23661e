/- Operations on values without a heap against the ideal ones: places, comparisons, what the model itself runs. Conditions: none. -/
import Derived.Test.YtpdlblofcdcikaaGreatDoorPur5
set_option linter.unusedSimpArgs false
set_option linter.unusedVariables false
namespace Go.Idl
variable {P : Program} {Z : Nat → Prop} {H : IH} {M : Nat → Option (Nat × PO)} {m : Nat → Nat} {ph : PHp}

theorem isliceOp_of {o : Oper} {t : TypeId} {v u : Value} {lo hi mx : Option Value} {env : Env} (h : islice P t v lo hi mx = some u) : isliceOp P o t v lo hi mx env H = some (.val u H) := by
  have hs : ∀ s, islice P t (.string s) lo hi mx = none := fun s => by
    unfold islice
    cases P.underlying t with
    | none => rfl
    | some d => cases d <;> cases mx <;> rfl
  unfold isliceOp
  split
  · rw [hs] at h; cases h
  · rw [h]; rfl
theorem fldT_inv {t i off ft : Nat} (h : fldT P t i = some (off, ft)) : ∃ fields f, P.underlying t = some (.struct fields) ∧ fields[i]? = some f ∧ f.offset = off ∧ f.type = ft := by
  unfold fldT at h
  split at h
  · rename_i fields hu
    split at h
    · rename_i f hf; cases h; exact ⟨fields, f, hu, hf, rfl, rfl⟩
    · cases h
  · cases h
theorem arrT_inv {t n el : Nat} (h : arrT P t = some (n, el)) : P.underlying t = some (.array n el) := by
  unfold arrT at h
  split at h
  · rename_i a b hab; cases h; exact hab
  · cases h
theorem pfieldAddr_ok {t : TypeId} {x y : PV} {v : Value} {i : Nat} (hx : VR P Z H (own m ph) x v) (h : pfieldAddr P t x i ph = some y) : ∃ u, ifieldAt P t v i = some u ∧ VR P Z H (own m ph) y u := by
  unfold pfieldAddr at h
  split at h
  · rename_i off ft hf
    obtain ⟨fields, f, q1, q2, rfl, rfl⟩ := fldT_inv hf
    split at h
    · rename_i s hs
      have go : ∀ b o, ifieldAt P t (.pointer (some ⟨b, o, none⟩)) i = some (.pointer (some ⟨b, o + f.offset, none⟩)) := fun b o => by
        unfold ifieldAt
        simp only [q1, q2, hs]
        rw [if_neg (by omega)]
      split at h
      · rename_i k tt o
        cases hb : live? k tt ph with
        | false => rw [hb] at h; cases h
        | true =>
          rw [hb] at h; cases h
          obtain ⟨ob, h1, h2⟩ := live_inv hb
          obtain ⟨rfl, hz⟩ := ref_live hx h1 h2
          refine ⟨_, go _ _, .ref rfl fun b' ob' hM => ?_⟩
          rw [own_some h1] at hM; cases hM
          exact ⟨by omega, fun _ => ⟨rfl, hz⟩⟩
      · rename_i cs o
        cases h
        cases hx with
        | lp hz hb hl hc =>
          refine ⟨_, go _ _, ?_⟩
          rw [Nat.add_assoc]
          exact .lp hz hb hl hc
      · cases h
    · cases h
  · cases h
theorem pfield_ok {t : TypeId} {x y : PV} {v : Value} {i : Nat} (hx : VR P Z H M x v) (h : pfield P t x i = some y) : ∃ u, ifield P t v i = some u ∧ VR P Z H M y u := by
  unfold pfield at h
  split at h
  · rename_i off ft cs hf
    obtain ⟨fields, f, q1, q2, rfl, rfl⟩ := fldT_inv hf
    cases hx with
    | agg hl hc =>
      rename_i vs
      obtain ⟨u, h1, h2⟩ := ppart_ok (vs := vs.toList) ⟨by simpa using hl, fun i x v a b => hc i x v a (by simpa using b)⟩ h
      refine ⟨u, ?_, h2⟩
      unfold ifield
      simp only [q1, q2]
      rw [vpart_ipart]; exact h1
  · cases h
theorem idx_inv {n j : Nat} {i : Int} (h : idx n i = some j) : i = (j : Int) ∧ j < n := by
  unfold idx at h
  split at h
  · cases h; omega
  · cases h
theorem pindexAddr_ok {t : TypeId} {x y ix : PV} {v vi : Value} (hp : Hp P Z H (own m ph)) (hx : VR P Z H (own m ph) x v) (hi : VR P Z H (own m ph) ix vi) (h : pindexAddr P t x ix ph = some y) : ∃ u, iindexAt P t v vi = some u ∧ VR P Z H (own m ph) y u := by
  unfold pindexAddr at h
  split at h
  · rename_i kk i
    have := pl_ok hi rfl
    subst this
    split at h
    · rename_i el n cs
      split at h
      · rename_i el' he
        split at h
        · rename_i s hs
          split at h
          · rename_i j hj
            cases h
            obtain ⟨rfl, hlt⟩ := idx_inv hj
            cases hx with
            | f hx =>
              cases hx with
              | nil => omega
              | l hz hb hn hsp hl hc =>
                refine ⟨_, ?_, .lp hz hb hl hc⟩
                unfold iindexAt
                simp only [elemT_inv he, hs]
                rw [if_pos (by simp; omega)]
                simp
          · cases h
        · cases h
      · cases h
    · rename_i k tt o n
      split at h
      · rename_i el' ob he hl
        split at h
        · rename_i s hs
          split at h
          · rename_i j hj
            cases hc : (Nat.beq el' ob.el && Nat.beq (tt * s) ob.cs.length) with
            | false => rw [hc] at h; cases h
            | true =>
              rw [hc] at h; cases h
              rw [Bool.and_eq_true] at hc
              have hel := Nat.eq_of_beq_eq_true hc.1
              subst hel
              obtain ⟨rfl, hlt⟩ := idx_inv hj
              obtain ⟨hO, h0⟩ := own_live hx hl hs (Nat.eq_of_beq_eq_true hc.2)
              rcases hO with ⟨_, _, _, rfl, _⟩ | ⟨g1, g2, g3, rfl⟩
              · omega
              · refine ⟨.pointer (some ⟨m k, (o + j) * s, none⟩), ?_, ref_is (own_some hl) fun hg => ?_⟩
                · unfold iindexAt
                  simp only [elemT_inv he, hs]
                  rw [if_pos (by simp; omega)]
                  simp [Nat.add_mul]
                · rw [← Nat.eq_of_beq_eq_true hc.2]
                  have := g1 hg
                  exact Nat.ne_of_gt (Nat.mul_pos (by omega) h0)
          · cases h
        · cases h
      · cases h
    · rename_i k tt off
      split at h
      · rename_i n el ha
        split at h
        · rename_i s j hs hj
          cases hb : live? k tt ph with
          | false => rw [hb] at h; cases h
          | true =>
            rw [hb] at h; cases h
            obtain ⟨ob, h1, h2⟩ := live_inv hb
            obtain ⟨rfl, hz⟩ := ref_live hx h1 h2
            obtain ⟨rfl, hlt⟩ := idx_inv hj
            refine ⟨.pointer (some ⟨m k, off + j * s, none⟩), ?_, .ref rfl fun b' ob' hM => ?_⟩
            · unfold iindexAt
              simp only [arrT_inv ha, hs]
              rw [if_pos (by simp; omega)]
              simp
            · rw [own_some h1] at hM; cases hM
              exact ⟨by omega, fun _ => ⟨rfl, hz⟩⟩
        · cases h
      · cases h
    · rename_i cs off
      split at h
      · rename_i n el ha
        split at h
        · rename_i s j hs hj
          cases h
          obtain ⟨rfl, hlt⟩ := idx_inv hj
          cases hx with
          | lp hz hb hl hc =>
            refine ⟨_, ?_, .lp hz hb hl hc⟩
            unfold iindexAt
            simp only [arrT_inv ha, hs]
            rw [if_pos (by simp; omega)]
            simp [Nat.add_assoc]
        · cases h
      · cases h
    · cases h
  · cases h
theorem pindex_ok {t : TypeId} {x y ix : PV} {v vi : Value} (hx : VR P Z H M x v) (hi : VR P Z H M ix vi) (h : pindex P t x ix = some y) : ∃ u, iindex P t v vi = some u ∧ VR P Z H M y u := by
  unfold pindex at h
  split at h
  · rename_i n el cs kk i ha
    have := pl_ok hi rfl
    subst this
    split at h
    · rename_i s j hs hj
      obtain ⟨rfl, hlt⟩ := idx_inv hj
      cases hx with
      | agg hl hc =>
        rename_i vs
        obtain ⟨u, h1, h2⟩ := ppart_ok (vs := vs.toList) ⟨by simpa using hl, fun i x v a b => hc i x v a (by simpa using b)⟩ h
        refine ⟨u, ?_, h2⟩
        unfold iindex
        simp only [arrT_inv ha, hs]
        rw [if_pos (by simp; omega), vpart_ipart]
        simpa using h1
    · cases h
  · cases h
theorem iindexOp_of {o : Oper} {t : TypeId} {v u ix : Value} {env : Env} (h : iindex P t v ix = some u) : iindexOp P o t v ix env H = some (.val u H) := by
  have hs : ∀ s, iindex P t (.string s) ix = none := fun s => by
    unfold iindex
    cases P.underlying t with
    | none => rfl
    | some d => cases d <;> rfl
  unfold iindexOp
  split
  · rw [hs] at h; cases h
  · rw [h]; rfl
theorem pextract_ok {x y : PV} {v : Value} {i : Nat} (hx : VR P Z H M x v) (h : pextract x i = some y) : ∃ u, iextract v i H = some (.val u H) ∧ VR P Z H M y u := by
  unfold pextract at h
  split at h
  · rename_i cs
    split at h
    · rename_i z hz
      cases hn : pnt z with
      | false => rw [hn] at h; cases h
      | true =>
        rw [hn] at h; cases h
        cases hx with
        | tup hl hc =>
          rename_i vs
          rw [nthR_eq] at hz
          have hlt := (List.getElem?_eq_some_iff.1 hz).1
          have hv : vs[i]? = some (vs[i]'(by rw [← hl]; exact hlt)) := Array.getElem?_eq_getElem _
          have hr := hc i _ _ hz hv
          refine ⟨_, ?_, hr⟩
          have : vs.toList[i]? = some (vs[i]'(by rw [← hl]; exact hlt)) := by simp
          show iextract2 H (nthR vs.toList i) = _
          rw [nthR_eq, this]
          unfold iextract2
          simp only [(hr.cells hn).2, cond_true]
    · cases h
  · cases h

/-! ### What the model itself runs -/
theorem val1_ok {r : Option Step1} {x : PV} {s : Option Step1} (h : val1 r = some x) (hs : ∀ v H0, r = some (.val v H0) → s = some (.val v H)) : ∃ u, s = some (.val u H) ∧ VR P Z H M x u := by
  unfold val1 at h
  split at h
  · rename_i v H0
    cases h
    exact ⟨v, hs v H0 rfl, ofC_ok v⟩
  · cases h
theorem dry_any {o : Oper} {env : Env} {v : Value} {H0 H' : IH} (h : idry P o env H0 = some (.val v H')) : ∀ H, idry P o env H = some (.val v H) := by
  obtain ⟨w, h1, h2⟩ := Loose.dry o env H0 _ h
  cases h1
  exact h2
theorem dry_op {o : Oper} {op : Op} {ty : TypeId} {env : Env} {x : PV} (he : idry P o env H = idry P (cop op ty) [] H) (h : pdry P op ty = some x) : ∃ u, idry P o env H = some (.val u H) ∧ VR P Z H M x u := by
  unfold pdry at h
  exact val1_ok h fun v H0 hv => by rw [he]; exact dry_any hv H
theorem pdry1_ok {o : Oper} {mk : Operand → Op} {ty : TypeId} {x y : PV} {v : Value} {env : Env} (hx : VR P Z H M x v) (he : idry P o env H = idry P (cop (mk (.const v)) ty) [] H) (h : pdry1 P mk x ty = some y) : ∃ u, idry P o env H = some (.val u H) ∧ VR P Z H M y u := by
  unfold pdry1 at h
  split at h
  · rename_i a ha
    have := pl_ok hx ha
    subst this
    exact dry_op he h
  · cases h
theorem isNil_ok {x : PV} {v : Value} {b : Bool} (hx : VR P Z H (own m ph) x v) (h : isNil (P := P) x ph = some b) : ∃ a n c, v = .slice a n c ∧ b = a.isNone := by
  unfold isNil at h
  split at h
  · cases h
    have := pl_ok hx rfl
    exact ⟨none, _, _, this, rfl⟩
  · cases h
    cases hx with
    | f hx => cases hx with
      | l => exact ⟨_, _, _, rfl, rfl⟩
  · rename_i k t o n
    split at h
    · rename_i ob hl
      split at h
      · rename_i s hs
        cases hc : Nat.beq (t * s) ob.cs.length with
        | false => rw [hc] at h; cases h
        | true =>
          rw [hc] at h; cases h
          obtain ⟨hO, h0⟩ := own_live hx hl hs (Nat.eq_of_beq_eq_true hc)
          rcases hO with ⟨g1, rfl, _, _, rfl⟩ | ⟨g1, _, _, rfl⟩
          · exact ⟨none, _, _, rfl, by rw [g1]; rfl⟩
          · refine ⟨_, _, _, rfl, ?_⟩
            cases hg : ob.gr with
            | false => rfl
            | true =>
              have := g1 hg
              cases t with
              | zero => exact absurd rfl this
              | succ t => rfl
      · cases h
    · cases h
  · cases h
theorem isNilF_ok {x : PV} {v : Value} {b : Bool} (hx : VR P Z H M x v) (h : isNilF x = some b) : (v = .nilFunc ∧ b = true) ∨ (∃ f a c, v = .func f a c ∧ b = false) := by
  unfold isNilF at h
  split at h
  · cases h
    exact .inl ⟨pl_ok hx rfl, rfl⟩
  · cases h
    exact .inr ⟨_, _, _, pl_ok hx rfl, rfl⟩
  · cases h
    cases hx
    exact .inr ⟨_, _, _, rfl, rfl⟩
  · cases h
theorem pnil_ok {o : Oper} {op : BinOp} {t : TypeId} {x y : PV} {vx vy : Value} {b : Bool} {env : Env} (hx : VR P Z H (own m ph) x vx) (hy : VR P Z H (own m ph) y vy) (h : pnil P t x y ph = some b) :
    ibinOp P o .eql t vx vy env H = some (.val (.bool b) H) ∧ ibinOp P o .neq t vx vy env H = some (.val (.bool !b) H) := by
  have key : asI vx = none ∧ nilEq2 P t vx vy = some b := by
    unfold pnil at h
    split at h
    · rename_i n c
      have := pl_ok hy rfl
      subst this
      cases hc : (elemT P t).isSome with
      | false => rw [hc] at h; cases h
      | true =>
        rw [hc] at h
        obtain ⟨a, n', c', rfl, rfl⟩ := isNil_ok hx h
        obtain ⟨el, he⟩ := Option.isSome_iff_exists.1 hc
        refine ⟨rfl, ?_⟩
        have e1 : inilEq (.slice a n' c') (.slice none n c) = some a.isNone := by cases a <;> rfl
        have e2 : nilKind P t (.slice a n' c') = true := by unfold nilKind; rw [elemT_inv he]
        unfold nilEq2
        rw [e1]
        simp only [e2, cond_true]
    · have := pl_ok hy rfl
      subst this
      cases hc : funcT P t with
      | false => rw [hc] at h; cases h
      | true =>
        rw [hc] at h
        unfold funcT at hc
        split at hc
        · rename_i p1 p2 p3 hu
          rcases isNilF_ok hx h with ⟨rfl, rfl⟩ | ⟨f, a, c, rfl, rfl⟩
          · refine ⟨rfl, ?_⟩
            unfold nilEq2 inilEq nilKind
            simp only [hu, cond_true]
          · refine ⟨rfl, ?_⟩
            unfold nilEq2 inilEq nilKind
            simp only [hu, cond_true]
        · cases hc
    · cases h
  constructor
  · unfold ibinOp
    rw [key.1]
    simp only [nilBin, key.2]
  · unfold ibinOp
    rw [key.1]
    simp only [nilBin, key.2]
theorem bin_loose {o o' : Oper} {op : BinOp} {t : TypeId} {a b : Value} {env env' : Env} {v : Value} {H0 H1 : IH} (hd : ∀ H, idry P o env H = idry P o' env' H) (h : ibinOp P o' op t a b env' H0 = some (.val v H1)) : ibinOp P o op t a b env H = some (.val v H) := by
  have e : ∀ H, ibinOp P o op t a b env H = ibinOp P o' op t a b env' H := fun H => by
    simp only [ibinOp, intBin2, nilBin, hd]
  rw [e]
  obtain ⟨w, h1, h2⟩ := Loose.binOp (P := P) o' op t a b env' H0 _ h
  cases h1
  exact h2 H
theorem pbin_ok {d : Option Tmp} {op : BinOp} {t t2 ty : TypeId} {ox oy : Operand} {pos : String} {aft : Array Edge} {g : Option (Nat × Bool)} {x y z : PV} {env : Env} (hx : VR P Z H (own m ph) x (env.val ox)) (hy : VR P Z H (own m ph) y (env.val oy)) (h : pbin P op t t2 x y ph = some z) :
    ∃ u, ibinOp P ⟨d, .binOp op t ox oy t2, ty, pos, aft, g⟩ op t (env.val ox) (env.val oy) env H = some (.val u H) ∧ VR P Z H (own m ph) z u := by
  unfold pbin at h
  split at h
  · rename_i a b ha hb
    have e1 := pl_ok hx ha
    have e2 := pl_ok hy hb
    cases hi : isIf a with
    | true => rw [hi] at h; cases h
    | false =>
      rw [hi] at h
      refine val1_ok h fun v H0 hv => bin_loose (fun H => ?_) (by rw [e1, e2]; exact hv)
      have hd : execOp env.val ⟨d, .binOp op t ox oy t2, ty, pos, aft, g⟩ = execOp (Env.val []) (cop (.binOp op t (.const a) (.const b) t2)) := by
        show (do let x ← (do eqGuard op t ox oy (env.val ox) (env.val oy); binOp op t (env.val ox) (env.val oy)); pure (Next.value x)) = (do let x ← (do eqGuard op t (.const a) (.const b) a b; binOp op t a b); pure (Next.value x))
        rw [e1, e2]
        have : eqGuard op t ox oy a b = eqGuard op t (.const a) (.const b) a b := by
          cases a <;> first | (cases hi; done) | rfl | (cases b <;> rfl)
        rw [this]
      unfold idry
      rw [hd]
      have hpl : mapR env.val (Op.binOp op t ox oy t2).operands.toList = mapR (Env.val []) (cop (.binOp op t (.const a) (.const b) t2)).op.operands.toList := by
        show [env.val ox, env.val oy] = [a, b]
        rw [e1, e2]
      simp only [hpl]
  · split at h
    · obtain ⟨b, hb, rfl⟩ := Option.map_eq_some_iff.1 h
      exact ⟨_, (pnil_ok (op := .eql) hx hy hb).1, fvv_ok rfl⟩
    · obtain ⟨b, hb, rfl⟩ := Option.map_eq_some_iff.1 h
      exact ⟨_, (pnil_ok (op := .eql) hx hy hb).2, fvv_ok rfl⟩
    · cases h
end Go.Idl
