/- Regions that draw their order, on values without a heap: what one operation looks at. Conditions: none. -/
import Derived.Test.YtpdlblofcdcikaaGreatDoorPur14
set_option linter.unusedSimpArgs false
set_option linter.unusedVariables false
namespace Go.Idl
variable {P : Program} {G : Nat → Bool} {nat : Nats} {tab : PTab} {nm : Nm}

/-- the objects that a value names -/
def dl1 : PV → List Nat
  | .own k _ _ _ => [k]
  | .ref k _ _ => [k]
  | _ => []
noncomputable def dlO (o : Oper) (env : List PV) : List Nat := o.op.operands.toList.flatMap fun x => dl1 (pval env x)
theorem dlO_mem {o : Oper} {env : List PV} {x : Operand} {k : Nat} (hx : x ∈ o.op.operands) (hk : k ∈ dl1 (pval env x)) : k ∈ dlO o env := List.mem_flatMap.2 ⟨x, Array.mem_def.1 hx, hk⟩

/-! ### One operation looks at its operands alone -/
theorem pairs_congr {env env' : List PV} {ps : List (Nat × Operand)} (h : ∀ x ∈ ps.map (·.2), pval env x = pval env' x) : (ps.map fun p => (p.1, pval env p.2)) = ps.map fun p => (p.1, pval env' p.2) :=
  List.map_congr_left fun p hp => by rw [h p.2 (List.mem_map.2 ⟨p, hp, rfl⟩)]
theorem eenv_congr (P : Program) {env env' : List PV} {x : Operand} (h : pval env x = pval env' x) (ha : (pl (pval env x)).isSome = true) : (eenv env).val x = (eenv env').val x := by
  obtain ⟨a, ha⟩ := Option.isSome_iff_exists.1 ha
  rw [eenv_val P ha, eenv_val P (h ▸ ha)]
theorem pcallD_congr {b : Builtin} {args : Array Operand} {ts : Array TypeId} {env env' : List PV} {ty : TypeId} {ph : PHp} (h : ∀ x ∈ args, pval env x = pval env' x) :
    pcallD P b ⟨.builtin b, args, ts⟩ (args.toList.map (pval env)) env ty ph = pcallD P b ⟨.builtin b, args, ts⟩ (args.toList.map (pval env')) env' ty ph := by
  have e : args.toList.map (pval env) = args.toList.map (pval env') := List.map_congr_left fun x hx => h x (Array.mem_def.2 hx)
  unfold pcallD
  rw [← e]
  cases hp : plL (args.toList.map (pval env)) with
  | none => rfl
  | some vs =>
    simp only
    have : idry P (cop (.call ⟨.builtin b, args, ts⟩) ty) (eenv env) H00 = idry P (cop (.call ⟨.builtin b, args, ts⟩) ty) (eenv env') H00 := by
      refine idry_congr (fun cs b h => by cases h) fun x hx => ?_
      have hx' : x ∈ args := by simpa [Op.operands, Call.operands, cop] using hx
      obtain ⟨a, ha⟩ := plL_mem hp (pval env x) (List.mem_map.2 ⟨x, by simpa using hx', rfl⟩)
      exact eenv_congr P (h x hx') (by rw [ha]; rfl)
    rw [this]
theorem pop1_congr {o : Oper} {env env' : List PV} {k : Nat} {ph : PHp} (h : ∀ x ∈ o.op.operands, pval env x = pval env' x) : pop1 P o env k ph = pop1 P o env' k ph := by
  obtain ⟨d, op, ty, pos, aft, g⟩ := o
  cases op <;> simp only [Op.operands] at h <;> simp only [pop1]
  case move x => rw [h x (by simp)]
  case assign x => rw [h x (by simp)]
  case pick c a b => rw [h c (by simp), h a (by simp), h b (by simp)]
  case box el x => rw [h x (by simp)]
  case build t ps => rw [pairs_congr fun x hx => h x (by simpa using hx)]
  case buildSlice t n ps => rw [pairs_congr fun x hx => h x (by simpa using hx)]
  case load t a => rw [h a (by simp)]
  case store t a x => rw [h a (by simp), h x (by simp)]
  case nilCheck x => rw [h x (by simp)]
  case binOp op t x y t2 => rw [h x (by simp), h y (by simp)]
  case unOp op t x => rw [h x (by simp)]
  case convert s t x => rw [h x (by simp)]
  case makeFunc fn first cap =>
    rw [List.map_congr_left (l := first.toList) fun x hx => h x (Array.mem_append.2 (.inl (Array.mem_def.2 hx))), List.map_congr_left (l := cap.toList) fun x hx => h x (Array.mem_append.2 (.inr (Array.mem_def.2 hx)))]
  case makeSlice t l c => rw [h l (by simp), h c (by simp)]
  case slice t x lo hi mx =>
    cases mx with
    | some m => rfl
    | none =>
      have e1 : lo.map (pval env) = lo.map (pval env') := by cases lo <;> simp_all
      have e2 : hi.map (pval env) = hi.map (pval env') := by cases hi <;> simp_all
      have e3 : (lo.toList ++ hi.toList).map (pval env) = (lo.toList ++ hi.toList).map (pval env') := by cases lo <;> cases hi <;> simp_all
      have e4 : lo.map (fun a => Operand.const ((pl (pval env a)).getD undef)) = lo.map fun a => Operand.const ((pl (pval env' a)).getD undef) := by cases lo <;> simp_all
      have e5 : hi.map (fun a => Operand.const ((pl (pval env a)).getD undef)) = hi.map fun a => Operand.const ((pl (pval env' a)).getD undef) := by cases hi <;> simp_all
      simp only [h x (by simp), e1, e2, e3, e4, e5]
  case fieldAddr t x i => rw [h x (by simp)]
  case field t x i => rw [h x (by simp)]
  case indexAddr t x ix => rw [h x (by simp), h ix (by simp)]
  case index t x ix => rw [h x (by simp), h ix (by simp)]
  case extract t i => rw [h t (by simp)]
  case call c =>
    obtain ⟨cal, args, ts⟩ := c
    simp only [Call.operands] at h
    have ha : ∀ x ∈ args, pval env x = pval env' x := fun x hx => h x (by cases cal <;> simp [hx])
    have e : args.toList.map (pval env) = args.toList.map (pval env') := List.map_congr_left fun x hx => ha x (Array.mem_def.2 hx)
    cases cal with
    | builtin b =>
      have hD := pcallD_congr (P := P) (b := b) (ts := ts) (ty := ty) (ph := ph) ha
      simp only [pcallB]
      cases b <;> simp only [e] at hD ⊢ <;> first | rfl | exact hD | skip
      rw [← e] at hD
      rw [← e]
      cases hl : args.toList.map (pval env) with
      | nil => rfl
      | cons x l =>
        cases l with
        | nil =>
          simp only
          rw [hl] at hD
          rw [hD]
        | cons => rfl
    | invoke r n => rfl
    | value f => rfl

/-! ### What an operation turns -/
theorem plook_cons_ne {l k : Nat} {ob : PO} {ph : PHp} (h : l ≠ k) : plook l ((k, ob) :: ph) = plook l ph := by
  have : (l == k) = false := by simpa using h
  show cond (l == k) (some ob) (plook l ph) = _
  rw [this]; rfl
theorem pnew_w {k : Nat} {ob : PO} {v y : PV} {ph ph' : PHp} (h : pnew k ob v ph = some (y, ph')) {l : Nat} (hl : l ≠ k) : plook l ph' = plook l ph := by
  obtain ⟨_, rfl⟩ := pnew_inv h
  exact plook_cons_ne hl
theorem pop1_w {o : Oper} {env : List PV} {k : Nat} {ph ph' : PHp} {v : PV} (h : pop1 P o env k ph = some (v, ph')) {l : Nat} (hk : l ≠ k) (hd : l ∉ dlO o env) : plook l ph' = plook l ph := by
  obtain ⟨d, op, ty, pos, aft, g⟩ := o
  have one : ∀ {r : Option PV}, pp1 ph r = some (v, ph') → plook l ph' = plook l ph := fun h => by rw [(pp1_inv h).2]
  have nin : ∀ x ∈ op.operands, l ∉ dl1 (pval env x) := fun x hx hl => hd (dlO_mem (o := ⟨d, op, ty, pos, aft, g⟩) hx hl)
  cases op <;> simp only [pop1] at h <;> (try (cases h; done)) <;> (try (exact one h))
  case move => cases h; rfl
  case assign => cases h; rfl
  case pick => split at h <;> cases h; rfl
  case alloc el =>
    unfold palloc at h
    split at h
    · exact pnew_w h hk
    · cases h
  case box el x =>
    unfold pbox at h
    cases hc : (pnt (pval env x) && (pcells (pval env x)).all pone) with
    | true => rw [hc] at h; exact pnew_w h hk
    | false => rw [hc] at h; cases h
  case buildSlice t n ps =>
    unfold pbuildSlice at h
    split at h
    · split at h
      · rename_i s z _ _
        cases hc : (Nat.beq z.length (s + 1) && Nat.ble (n * (s + 1)) 65536) with
        | true =>
          rw [hc] at h
          simp only [cond_true] at h
          split at h
          · exact pnew_w h hk
          · cases h
        | false => rw [hc] at h; cases h
      · cases h
    · cases h
  case store t a x =>
    unfold ppS at h
    split at h
    · rename_i ph1 hs
      cases h
      unfold pstore at hs
      split at hs
      · rename_i k' tt off ha
        have hne : l ≠ k' := fun e => nin a (by simp [Op.operands]) (by rw [ha, e]; simp [dl1])
        split at hs
        · split at hs
          · rename_i ob _ _ n _
            cases hc : (Nat.beq tt ob.cs.length && (Nat.beq n (pcells (pval env x)).length && (Nat.ble (off + n) ob.cs.length && (pnt (pval env x) && (pcells (pval env x)).all pone)))) with
            | true => rw [hc] at hs; cases hs; rw [plook_set, if_neg (fun h => hne h.1)]
            | false => rw [hc] at hs; cases hs
          · cases hs
        · cases hs
      · cases hs
    · cases h
  case convert s t x =>
    cases hc : isPtr (pval env x) with
    | true => rw [hc] at h; cases h
    | false => rw [hc] at h; exact one h
  case makeSlice t a b =>
    unfold pmakeSlice at h
    split at h
    · rename_i el k1 n1 k2 m1 _ _ _
      cases hc : decide (n1 = m1) with
      | false => rw [hc] at h; cases h
      | true =>
        rw [hc] at h
        simp only [cond_true] at h
        split at h
        · rename_i n s z _ _ _
          cases hc : (smallT P el && Nat.beq z.length (s + 1)) with
          | true => rw [hc] at h; exact pnew_w h hk
          | false => rw [hc] at h; cases h
        · cases h
    · cases h
  case slice t x lo hi mx =>
    cases mx with
    | some => cases h
    | none =>
      simp only at h
      split at h
      · split at h
        · exact one h
        · cases h
      · exact one h
  case index => split at h <;> exact one h
  case call c =>
    obtain ⟨cal, args, ts⟩ := c
    split at h
    · rename_i b hb
      simp only at hb
      subst hb
      have dry : pcallD P b ⟨.builtin b, args, ts⟩ (args.toList.map (pval env)) env ty ph = some (v, ph') → plook l ph' = plook l ph := fun h => by
        unfold pcallD at h
        split at h
        · exact one h
        · cases h
      have mem : ∀ x, x ∈ args.toList.map (pval env) → l ∉ dl1 x := fun x hx => by
        obtain ⟨a, ha, rfl⟩ := List.mem_map.1 hx
        exact nin a (by simpa [Op.operands, Call.operands] using ha)
      unfold pcallB at h
      split at h
      · split at h
        · rename_i x y hxy
          have hx : l ∉ dl1 x := mem x (by rw [hxy]; simp)
          unfold pappend at h
          have grow : ∀ {el s : Nat} {old : List PV} {n : Nat} {new : List PV} {mm kk : Nat} {php : PHp}, pgrow P el s old n new mm kk php = some (v, ph') → l ≠ kk → plook l ph' = plook l php := fun hg hkk => by
            unfold pgrow at hg
            rename_i el s old n new mm kk php
            cases hc : (Nat.ble (n + mm) 1048576 && (smallT P el && (Nat.beq (old.length) (n * s) && (Nat.beq new.length (mm * s) && new.all pone)))) with
            | true => rw [hc] at hg; exact pnew_w hg hkk
            | false => rw [hc] at hg; cases hg
          split at h
          · split at h
            · split at h
              · split at h
                · rename_i el _ _ _ _ s _ _ mm new _
                  split at h
                  · cases h0 : Nat.beq mm 0 with
                    | true => rw [h0] at h; cases h; rfl
                    | false => rw [h0] at h; exact grow h hk
                  · rename_i j tt o n
                    have hj : l ≠ j := fun e => hx (by rw [e]; simp [dl1])
                    split at h
                    · rename_i ob hl
                      cases hc : (Nat.beq ob.el el && (Nat.beq (tt * (s + 1)) ob.cs.length && Nat.beq o 0)) with
                      | false => rw [hc] at h; cases h
                      | true =>
                        rw [hc] at h
                        simp only [cond_true] at h
                        cases h0 : Nat.beq mm 0 with
                        | true => rw [h0] at h; cases h; rfl
                        | false =>
                          rw [h0] at h
                          simp only [cond_false] at h
                          cases hr : Nat.ble (n + mm) tt with
                          | true =>
                            rw [hr] at h
                            simp only [cond_true] at h
                            cases hc2 : (Nat.beq new.length (mm * (s + 1)) && new.all pone) with
                            | true => rw [hc2] at h; cases h; rw [plook_set, if_neg (fun h => hj h.1)]
                            | false => rw [hc2] at h; cases h
                          | false =>
                            rw [hr] at h
                            simp only [cond_false] at h
                            cases hn : Nat.beq n tt with
                            | false => rw [hn] at h; cases h
                            | true =>
                              rw [hn] at h
                              simp only [cond_true] at h
                              cases hg : ob.gr with
                              | true => rw [hg] at h; rw [grow h hj, plook_del, if_neg hj]
                              | false => rw [hg] at h; exact grow h hk
                    · cases h
                  · cases h
                · cases h
              · cases h
            · cases h
          · cases h
        · cases h
      · split at h
        · rename_i x y hxy
          have hx : l ∉ dl1 x := mem x (by rw [hxy]; simp)
          unfold pcopy at h
          split at h
          · split at h
            · split at h
              · split at h
                · rename_i el _ _ _ _ s _ _ mm new _
                  split at h
                  · rename_i j tt o n
                    have hj : l ≠ j := fun e => hx (by rw [e]; simp [dl1])
                    split at h
                    · rename_i ob hl
                      cases hc : (Nat.beq ob.el el && (Nat.beq (tt * (s + 1)) ob.cs.length && (Nat.beq new.length (mm * (s + 1)) && new.all pone))) with
                      | false => rw [hc] at h; cases h
                      | true => rw [hc] at h; cases h; rw [plook_set, if_neg (fun h => hj h.1)]
                    · cases h
                  · cases h; rfl
                  · cases h; rfl
                  · cases h
                · cases h
              · cases h
            · cases h
          · cases h
        · cases h
      · split at h
        · cases hc : strT P ts with
          | true => rw [hc] at h; exact dry h
          | false => rw [hc] at h; exact one h
        · cases h
      · exact dry h
      · exact dry h
      · cases h
    · cases h

/-! ### What an operation sees -/
theorem pload_d {t : TypeId} {a x : PV} {ph ph' : PHp} (h : pload P t a ph = some x) (hd : ∀ l ∈ dl1 a, plook l ph' = plook l ph) : pload P t a ph' = some x := by
  cases a <;> first | exact h | skip
  rename_i k tt off
  have := hd k (by simp [dl1])
  unfold pload at h ⊢
  simp only [this]
  exact h
theorem live_d {k tt : Nat} {ph ph' : PHp} (h : plook k ph' = plook k ph) : live? k tt ph' = live? k tt ph := by unfold live?; rw [h]
theorem pnilCheck_d {a x : PV} {ph ph' : PHp} (h : pnilCheck a ph = some x) (hd : ∀ l ∈ dl1 a, plook l ph' = plook l ph) : pnilCheck a ph' = some x := by
  unfold pnilCheck at h ⊢
  split at h
  · rename_i k tt off
    rw [live_d (tt := tt) (hd k (by simp [dl1]))]; exact h
  · exact h
  · exact h
  · exact h
  · cases h
theorem pslice_d {t : TypeId} {a x : PV} {lo hi : Option PV} {ph ph' : PHp} (h : pslice P t a lo hi ph = some x) (hd : ∀ l ∈ dl1 a, plook l ph' = plook l ph) : pslice P t a lo hi ph' = some x := by
  unfold pslice at h ⊢
  split at h
  · exact h
  · exact h
  · rename_i k tt o n
    rw [hd k (by simp [dl1])]; exact h
  · rename_i k tt
    rw [hd k (by simp [dl1])]; exact h
  · cases h
theorem pfieldAddr_d {t : TypeId} {a x : PV} {i : Nat} {ph ph' : PHp} (h : pfieldAddr P t a i ph = some x) (hd : ∀ l ∈ dl1 a, plook l ph' = plook l ph) : pfieldAddr P t a i ph' = some x := by
  cases a <;> first | exact h | skip
  rename_i k tt off
  have := live_d (tt := tt) (hd k (by simp [dl1]))
  unfold pfieldAddr at h ⊢
  simp only [this]
  exact h
theorem pindexAddr_d {t : TypeId} {a ix x : PV} {ph ph' : PHp} (h : pindexAddr P t a ix ph = some x) (hd : ∀ l ∈ dl1 a, plook l ph' = plook l ph) : pindexAddr P t a ix ph' = some x := by
  unfold pindexAddr at h ⊢
  split at h
  · split at h
    · exact h
    · rename_i k tt o n
      rw [hd k (by simp [dl1])]; exact h
    · rename_i k tt off
      rw [live_d (tt := tt) (hd k (by simp [dl1]))]; exact h
    · exact h
    · cases h
  · cases h
theorem plen_d {ts : Array TypeId} {a x : PV} {ph ph' : PHp} (h : plen P ts a ph = some x) (hd : ∀ l ∈ dl1 a, plook l ph' = plook l ph) : plen P ts a ph' = some x := by
  unfold plen at h ⊢
  split at h
  · split at h
    · split at h
      · exact h
      · exact h
      · rename_i k tt o n
        rw [hd k (by simp [dl1])]; exact h
      · cases h
    · exact h
  · cases h
theorem isNil_d {a : PV} {b : Bool} {ph ph' : PHp} (h : isNil (P := P) a ph = some b) (hd : ∀ l ∈ dl1 a, plook l ph' = plook l ph) : isNil (P := P) a ph' = some b := by
  unfold isNil at h ⊢
  split at h
  · exact h
  · exact h
  · rename_i k tt o n
    rw [hd k (by simp [dl1])]; exact h
  · cases h
theorem pnil_d {t : TypeId} {a b : PV} {r : Bool} {ph ph' : PHp} (h : pnil P t a b ph = some r) (hd : ∀ l ∈ dl1 a, plook l ph' = plook l ph) : pnil P t a b ph' = some r := by
  unfold pnil at h ⊢
  split at h
  · cases hc : (elemT P t).isSome with
    | true => rw [hc] at h; exact isNil_d h hd
    | false => rw [hc] at h; cases h
  · exact h
  · cases h
theorem pbin_d {op : BinOp} {t t2 : TypeId} {a b x : PV} {ph ph' : PHp} (h : pbin P op t t2 a b ph = some x) (hd : ∀ l ∈ dl1 a, plook l ph' = plook l ph) : pbin P op t t2 a b ph' = some x := by
  unfold pbin at h ⊢
  split at h
  · exact h
  · split at h
    · obtain ⟨r, h1, rfl⟩ := Option.map_eq_some_iff.1 h
      rw [pnil_d h1 hd]; rfl
    · obtain ⟨r, h1, rfl⟩ := Option.map_eq_some_iff.1 h
      rw [pnil_d h1 hd]; rfl
    · cases h
/-- an operation that turns nothing sees the objects alone that its operands name -/
theorem pop1_d {o : Oper} {env : List PV} {k : Nat} {ph ph1 : PHp} {v : PV} (hf : isEff o = false) (ha : isAlloc o = false) (h : pop1 P o env k ph = some (v, ph1)) :
    ph1 = ph ∧ ∀ (k' : Nat) (ph' : PHp), (∀ l ∈ dlO o env, plook l ph' = plook l ph) → pop1 P o env k' ph' = some (v, ph') := by
  obtain ⟨d, op, ty, pos, aft, g⟩ := o
  have mem : ∀ {x : Operand} {ph' : PHp}, x ∈ op.operands → (∀ l ∈ dlO ⟨d, op, ty, pos, aft, g⟩ env, plook l ph' = plook l ph) → ∀ l ∈ dl1 (pval env x), plook l ph' = plook l ph := fun hx hd l hl => hd l (dlO_mem (o := ⟨d, op, ty, pos, aft, g⟩) hx hl)
  have one : ∀ {f : PHp → Option PV}, pp1 ph (f ph) = some (v, ph1) → (∀ {x ph'}, (∀ l ∈ dlO ⟨d, op, ty, pos, aft, g⟩ env, plook l ph' = plook l ph) → f ph = some x → f ph' = some x) → ph1 = ph ∧ ∀ (k' : Nat) (ph' : PHp), (∀ l ∈ dlO ⟨d, op, ty, pos, aft, g⟩ env, plook l ph' = plook l ph) → pp1 ph' (f ph') = some (v, ph') := fun h hk => by
    obtain ⟨h1, h2⟩ := pp1_inv h
    exact ⟨h2, fun k' ph' hd => by rw [hk hd h1]; rfl⟩
  have hne : clsOf ⟨d, op, ty, pos, aft, g⟩ = .pure ∨ clsOf ⟨d, op, ty, pos, aft, g⟩ = .read := not_eff hf ha
  cases op <;> simp only [pop1] at h ⊢ <;> (try (cases h; done))
  case move => cases h; exact ⟨rfl, fun _ _ _ => rfl⟩
  case assign => cases h; exact ⟨rfl, fun _ _ _ => rfl⟩
  case pick c a b =>
    split at h
    · rename_i t ht
      cases h
      refine ⟨rfl, fun _ _ _ => ?_⟩
      simp only [ht]
    · cases h
  case alloc => simp only [clsOf] at hne; split at hne <;> (rcases hne with h | h <;> cases h)
  case box => rcases hne with h | h <;> cases h
  case buildSlice => rcases hne with h | h <;> cases h
  case store => rcases hne with h | h <;> cases h
  case makeSlice => rcases hne with h | h <;> cases h
  case build t ps =>
    obtain ⟨h1, h2⟩ := pp1_inv h
    exact ⟨h2, fun k' ph' hd => by rw [h1]; rfl⟩
  case load t a => exact one (f := fun q => pload P t (pval env a) q) h fun hd h => pload_d h (mem (by simp [Op.operands]) hd)
  case nilCheck x => exact one (f := fun q => pnilCheck (pval env x) q) h fun hd h => pnilCheck_d h (mem (by simp [Op.operands]) hd)
  case binOp op t x y t2 => exact one (f := fun q => pbin P op t t2 (pval env x) (pval env y) q) h fun hd h => pbin_d h (mem (by simp [Op.operands]) hd)
  case unOp op t x => exact one (f := fun _ => pdry1 P (fun a => .unOp op t a) (pval env x)) h fun _ h => h
  case convert s t x =>
    cases hc : isPtr (pval env x) with
    | true => rw [hc] at h; cases h
    | false =>
      rw [hc] at h
      simp only [cond_false] at h ⊢
      exact one (f := fun _ => pdry1 P (fun a => .convert s t a) (pval env x)) h fun _ h => h
  case makeFunc fn a b => exact one (f := fun _ => pmakeFunc fn (a.toList.map (pval env)) (b.toList.map (pval env))) h fun _ h => h
  case slice t x lo hi mx =>
    cases mx with
    | some => cases h
    | none =>
      simp only at h ⊢
      split at h
      · rename_i s hs
        split at h
        · rename_i vs hvs
          exact one (f := fun _ => pdry P (.slice t (.const (.string s)) (lo.map fun a => .const ((pl (pval env a)).getD undef)) (hi.map fun a => .const ((pl (pval env a)).getD undef)) none)) h fun _ h => h
        · cases h
      · exact one (f := fun q => pslice P t (pval env x) (lo.map (pval env)) (hi.map (pval env)) q) h fun hd h => pslice_d h (mem (by cases lo <;> cases hi <;> simp [Op.operands]) hd)
  case fieldAddr t x i => exact one (f := fun q => pfieldAddr P t (pval env x) i q) h fun hd h => pfieldAddr_d h (mem (by simp [Op.operands]) hd)
  case field t x i => exact one (f := fun _ => pfield P t (pval env x) i) h fun _ h => h
  case indexAddr t x ix => exact one (f := fun q => pindexAddr P t (pval env x) (pval env ix) q) h fun hd h => pindexAddr_d h (mem (by simp [Op.operands]) hd)
  case index t x ix =>
    split at h
    · rename_i s j hs hj
      exact one (f := fun _ => pdry P (.index t (.const (.string s)) (.const j))) h fun _ h => h
    · exact one (f := fun _ => pindex P t (pval env x) (pval env ix)) h fun _ h => h
  case extract t i => exact one (f := fun _ => pextract (pval env t) i) h fun _ h => h
  case call c =>
    obtain ⟨cal, args, ts⟩ := c
    split at h
    · rename_i b hb
      simp only at hb
      subst hb
      have dry : ∀ {b : Builtin}, pcallD P b ⟨.builtin b, args, ts⟩ (args.toList.map (pval env)) env ty ph = some (v, ph1) → ph1 = ph ∧ ∀ ph', pcallD P b ⟨.builtin b, args, ts⟩ (args.toList.map (pval env)) env ty ph' = some (v, ph') := fun h => by
        unfold pcallD at h ⊢
        split at h
        · obtain ⟨h1, h2⟩ := pp1_inv h
          exact ⟨h2, fun ph' => by rw [h1]; rfl⟩
        · cases h
      unfold pcallB at h
      split at h
      · rcases hne with h | h <;> cases h
      · rcases hne with h | h <;> cases h
      · split at h
        · rename_i x hx
          obtain ⟨a1, ha1, rfl⟩ : ∃ a1, args = #[a1] ∧ x = pval env a1 := by
            cases hq : args.toList with
            | nil => rw [hq] at hx; cases hx
            | cons a l =>
              rw [hq] at hx
              cases l with
              | nil =>
                simp only [List.map_cons, List.map_nil, List.cons.injEq, and_true] at hx
                exact ⟨a, by have e9 : args = args.toList.toArray := by simp
                             rw [e9, hq], hx.symm⟩
              | cons => cases hx
          subst ha1
          cases hc : strT P ts with
          | true =>
            rw [hc] at h
            obtain ⟨h1, h2⟩ := dry h
            refine ⟨h1, fun k' ph' hd => ?_⟩
            unfold pcallB
            simp only [List.map_cons, List.map_nil, hc, cond_true]
            exact h2 ph'
          | false =>
            rw [hc] at h
            obtain ⟨h1, h2⟩ := pp1_inv h
            refine ⟨h2, fun k' ph' hd => ?_⟩
            unfold pcallB
            simp only [List.map_cons, List.map_nil, hc, cond_false]
            rw [plen_d h1 (mem (by simp [Op.operands, Call.operands]) hd)]; rfl
        · cases h
      · obtain ⟨h1, h2⟩ := dry h
        exact ⟨h1, fun k' ph' hd => h2 ph'⟩
      · obtain ⟨h1, h2⟩ := dry h
        exact ⟨h1, fun k' ph' hd => h2 ph'⟩
      · cases h
    · cases h
end Go.Idl
