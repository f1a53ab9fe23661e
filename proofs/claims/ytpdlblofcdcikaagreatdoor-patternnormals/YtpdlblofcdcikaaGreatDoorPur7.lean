/- Operations on values without a heap against the ideal ones: builtins; one operation. Conditions: none. -/
import Derived.Test.YtpdlblofcdcikaaGreatDoorPur6
set_option linter.unusedSimpArgs false
set_option linter.unusedVariables false
namespace Go.Idl
variable {P : Program} {Z : Nat → Prop} {H : IH} {M : Nat → Option (Nat × PO)} {m : Nat → Nat} {ph : PHp}

theorem icallOp_b {o : Oper} {b : Builtin} {args : Array Operand} {ts : Array TypeId} {env : Env} {s : Step1} (h : ibuiltin P b ⟨.builtin b, args, ts⟩ (mapR env.val args.toList) H = some s) : icallOp P o ⟨.builtin b, args, ts⟩ env H = some s := by
  have : icall P ⟨.builtin b, args, ts⟩ env H = some s := h
  unfold icallOp; rw [this]
theorem icallOp_dry {o : Oper} {b : Builtin} {args : Array Operand} {ts : Array TypeId} {env : Env} {s : Option Step1} (hn : ibuiltin P b ⟨.builtin b, args, ts⟩ (mapR env.val args.toList) H = none) (h : idry P o env H = s) : icallOp P o ⟨.builtin b, args, ts⟩ env H = s := by
  have : icall P ⟨.builtin b, args, ts⟩ env H = none := hn
  unfold icallOp; rw [this]; exact h
theorem pl_ofC (P : Program) {v a : Value} (h : pl (ofC v) = some a) : a = v := (pl_ok (P := P) (Z := fun _ => False) (H := H00) (M := fun _ => none) (ofC_ok v) h).symm
theorem eenv_val (P : Program) {env : List PV} {x : Operand} {a : Value} (h : pl (pval env x) = some a) : (eenv env).val x = a := by
  cases x with
  | tmp t =>
    have h : pl ((nthR env t).getD .unk) = some a := h
    unfold Env.val eenv
    rw [nthR_eq] at h
    simp only [nthR_eq, mapR_eq, List.getElem?_map]
    cases he : env[t]? with
    | none => rw [he] at h; cases h
    | some y => rw [he] at h; simp only [Option.getD_some] at h; simp [erV, h]
  | const v => exact (pl_ofC P h).symm
  | global g => cases h
  | func g => cases h; rfl
theorem plL_mem : ∀ {xs : List PV} {as : List Value}, plL xs = some as → ∀ x ∈ xs, ∃ a, pl x = some a
  | [], _, _, x, hx => by cases hx
  | y :: xs, as, h, x, hx => by
    unfold plL at h
    split at h
    · rename_i a ha
      split at h
      · rename_i as' has
        rcases List.mem_cons.1 hx with rfl | hx
        · exact ⟨a, ha⟩
        · exact plL_mem has x hx
      · cases h
    · cases h
theorem pcallD_ok {d : Option Tmp} {b : Builtin} {args : Array Operand} {ts : Array TypeId} {ty : TypeId} {pos : String} {aft : Array Edge} {g : Option (Nat × Bool)} {env : List PV} {ienv : Env} {y : PV} {ph' : PHp} (he : VRL P Z H (own m ph) env ienv)
    (hn : ibuiltin P b ⟨.builtin b, args, ts⟩ (mapR ienv.val args.toList) H = none) (h : pcallD P b ⟨.builtin b, args, ts⟩ (args.toList.map (pval env)) env ty ph = some (y, ph')) :
    ph' = ph ∧ ∃ u, icallOp P ⟨d, .call ⟨.builtin b, args, ts⟩, ty, pos, aft, g⟩ ⟨.builtin b, args, ts⟩ ienv H = some (.val u H) ∧ VR P Z H (own m ph) y u := by
  unfold pcallD at h
  split at h
  · rename_i vs hvs
    unfold pp1 at h
    split at h
    · rename_i v hv
      cases h
      refine ⟨rfl, ?_⟩
      obtain ⟨u, h1, h2⟩ := val1_ok (P := P) (Z := Z) (H := H) (M := own m ph) (s := idry P ⟨d, .call ⟨.builtin b, args, ts⟩, ty, pos, aft, g⟩ ienv H) hv fun w H0 hw => by
        have e : idry P ⟨d, .call ⟨.builtin b, args, ts⟩, ty, pos, aft, g⟩ ienv H = idry P ⟨d, .call ⟨.builtin b, args, ts⟩, ty, pos, aft, g⟩ (eenv env) H := by
          refine idry_congr (fun cs b h => by cases h) fun x hx => ?_
          have hx' : x ∈ args := by simpa [Op.operands, Call.operands] using hx
          obtain ⟨a, ha⟩ := plL_mem hvs (pval env x) (List.mem_map.2 ⟨x, by simpa using hx', rfl⟩)
          rw [eenv_val P ha]
          exact pl_ok (pval_ok he x) ha
        rw [e]
        have e2 : ∀ H, idry P ⟨d, .call ⟨.builtin b, args, ts⟩, ty, pos, aft, g⟩ (eenv env) H = idry P (cop (.call ⟨.builtin b, args, ts⟩) ty) (eenv env) H := fun H => rfl
        rw [e2]
        exact dry_any hw H
      exact ⟨u, icallOp_dry hn h1, h2⟩
    · cases h
  · cases h
theorem l_slice {el n : Nat} {cs : List FV} {v : Value} (h : VR P Z H M (.f (.l el n cs)) v) : ∃ a c, v = .slice a n c := by
  cases h with
  | f h => cases h <;> exact ⟨_, _, rfl⟩
theorem plen_ok {d : Option Tmp} {x : Operand} {ts : Array TypeId} {ty : TypeId} {pos : String} {aft : Array Edge} {g : Option (Nat × Bool)} {env : Env} {px y : PV} (hx : VR P Z H (own m ph) px (env.val x)) (h : plen P ts px ph = some y) :
    ∃ u, icallOp P ⟨d, .call ⟨.builtin .len, #[x], ts⟩, ty, pos, aft, g⟩ ⟨.builtin .len, #[x], ts⟩ env H = some (.val u H) ∧ VR P Z H (own m ph) y u := by
  have hb : ∀ s, ilenB P ts [env.val x] H = s → ibuiltin P .len ⟨.builtin .len, #[x], ts⟩ (mapR env.val #[x].toList) H = s := fun s h => h
  unfold plen at h
  split at h
  · rename_i t ht
    split at h
    · rename_i el he
      have hsl : ∀ a n c, env.val x = .slice a n c → ∃ u, icallOp P ⟨d, .call ⟨.builtin .len, #[x], ts⟩, ty, pos, aft, g⟩ ⟨.builtin .len, #[x], ts⟩ env H = some (.val u H) ∧ VR P Z H (own m ph) (fvv (.int .i64 (n : Int))) u := fun a n c hv => by
        refine ⟨goInt n, icallOp_b (hb _ ?_), fvv_ok rfl⟩
        unfold ilenB
        rw [ht, hv]
        simp only [Option.bind_some, elemT_inv he]
      split at h
      · cases h
        obtain ⟨a, c, hv⟩ := l_slice hx
        exact hsl _ _ _ hv
      · cases h
        exact hsl _ _ _ (pl_ok hx rfl)
      · rename_i k tt o n
        split at h
        · rename_i ob hl
          split at h
          · rename_i s hs
            cases hc : Nat.beq (tt * s) ob.cs.length with
            | false => rw [hc] at h; cases h
            | true =>
              rw [hc] at h; cases h
              obtain ⟨hO, h0⟩ := own_live hx hl hs (Nat.eq_of_beq_eq_true hc)
              rcases hO with ⟨_, _, _, rfl, hv⟩ | ⟨_, _, _, hv⟩
              · exact hsl _ _ _ hv
              · exact hsl _ _ _ hv
          · cases h
        · cases h
      · cases h
    · rename_i hne
      split at h
      · rename_i n el ha
        cases h
        refine ⟨goInt n, icallOp_b (hb _ ?_), fvv_ok rfl⟩
        unfold ilenB
        rw [ht]
        simp only [Option.bind_some, arrT_inv ha]
      · cases h
  · cases h

theorem pnews_ok {x : PV} {v : Value} {s n : Nat} {new : List PV} (hp : Hp P Z H (own m ph)) (hx : VR P Z H (own m ph) x v) (h : pnews P s x ph = some (n, new)) :
    ∃ vs a c, v = .slice a n c ∧ firstZ s n H v = some vs ∧ VRL P Z H (own m ph) new vs ∧ new.length = n * s := by
  unfold pnews at h
  split at h
  · rename_i el n' cs
    cases hc : Nat.beq (n' * s) cs.length with
    | false => rw [hc] at h; cases h
    | true =>
      rw [hc] at h; cases h
      have hlen := Nat.eq_of_beq_eq_true hc
      cases hx with
      | f hx =>
        cases hx with
        | nil h0 hsp => exact ⟨[], _, _, rfl, by unfold firstZ; simp [lenOfI], by simpa using VRL.nil, by simp⟩
        | @l _ _ _ b o sp c vs hz hb hn hsp hl hcv =>
          refine ⟨vs, _, _, rfl, ?_, fcells (by rw [loads_len hl]) hcv, by simp [hlen]⟩
          unfold firstZ
          by_cases h0 : n = 0
          · subst h0
            have : vs = [] := by
              have := loads_len hl
              rw [← hlen] at this
              exact List.length_eq_zero_iff.1 (by omega)
            subst this
            simp [lenOfI]
          · rw [if_neg h0]
            unfold firstI
            rw [hlen]; exact hl
  · cases h
    have := pl_ok hx rfl
    subst this
    exact ⟨[], _, _, rfl, by unfold firstZ; simp [lenOfI], .nil, by simp⟩
  · rename_i k tt o n'
    split at h
    · rename_i ob hl
      split at h
      · rename_i s' hs
        cases hc : (Nat.beq (tt * s') ob.cs.length && Nat.beq s s') with
        | false => rw [hc] at h; cases h
        | true =>
          rw [hc] at h; cases h
          rw [Bool.and_eq_true] at hc
          have h1 := Nat.eq_of_beq_eq_true hc.1
          have h2 := Nat.eq_of_beq_eq_true hc.2
          subst h2
          obtain ⟨hO, h0⟩ := own_live hx hl hs h1
          rcases hO with ⟨g1, rfl, rfl, rfl, rfl⟩ | ⟨g1, g2, g3, rfl⟩
          · exact ⟨[], _, _, rfl, by unfold firstZ; simp [lenOfI], by simpa using VRL.nil, by simp⟩
          · obtain ⟨w1, w2, w3, vs, q1, q2, q3⟩ := hp.real hl (own_real h1 h0 g1)
            have hle : (o + n) * s ≤ tt * s := Nat.mul_le_mul_right _ g2
            rw [Nat.add_mul] at hle
            refine ⟨(vs.drop (o * s)).take (n * s), _, _, rfl, ?_, (q2.drop _).take _, by simp; omega⟩
            unfold firstZ
            by_cases hn0 : n = 0
            · subst hn0; simp [lenOfI]
            · rw [if_neg hn0]
              unfold firstI
              exact loads_cells q1 (by rw [← q2.len]; omega) rfl
      · cases h
    · cases h
  · cases h
theorem free_gr (g : Bool) : freeFz (cond g roomFz (0, 0)) = true := by cases g <;> rfl
theorem small_grow {el : TypeId} {i : TypeInfo} {need : Nat} {new : List Value} (hi : P.info? el = some i) (hs : smallT P el = true) (hn : need ≤ 1048576) (h1 : new.all oneCell = true) :
    (decide (need ≤ 2 ^ 40) && decide (need * i.bytes ≤ 2 ^ 45) && new.all oneCell && ((zeroT P el).map (·.cells.size)) == some i.size) = true := by
  obtain ⟨i', q1, q2, q3⟩ := smallT_inv hs
  rw [hi] at q1; cases q1
  rw [q3, h1]
  simp only [beq_self_eq_true, Bool.and_true, Bool.and_eq_true, decide_eq_true_eq]
  have : need * i.bytes ≤ 1048576 * 4096 := Nat.mul_le_mul hn q2
  omega

theorem pappend_ok {ts : List TypeId} {base x y : PV} {vb vx : Value} {k : Nat} {ph' : PHp} (hp : Hp P Z H (own m ph)) (hb : H.base ≤ H.size) (hn : noKH k ph = true) (hbase : VR P Z H (own m ph) base vb) (hx : VR P Z H (own m ph) x vx) (hkx : noK k x = true) (hkb : noK k base = true)
    (h : pappend P ts base x k ph = some (y, ph')) : Res P Z H m ph (fun j => j == k) y ph' (iappend P ts.toArray [vb, vx] H) := by
  unfold pappend at h
  split at h
  · rename_i st xt
    split at h
    · rename_i el el2 he he2
      split at h
      · rename_i s hs
        split at h
        · rename_i mm new hnew
          obtain ⟨vs, a, c, rfl, hf, hr, hlen⟩ := pnews_ok hp hx hnew
          obtain ⟨i, hi, hisz⟩ : ∃ i, P.info? el = some i ∧ i.size = s + 1 := szT_info hs
          have hnews : inews P el i (.slice el2) (.slice a mm c) H = some (mm, vs) := by
            unfold inews
            simp only [lenOfI, strOk, cond_true, hisz, hf, Option.map_some]
          have hnewk : noKL k new = true := by
            unfold pnews at hnew
            split at hnew
            · rename_i el3 n3 cs3
              cases hc : Nat.beq (n3 * (s + 1)) cs3.length with
              | false => rw [hc] at hnew; cases hnew
              | true =>
                rw [hc] at hnew; cases hnew
                have key : ∀ l : List FV, noKL k (l.map PV.f) = true := fun l => by
                  induction l with
                  | nil => rfl
                  | cons a l ih => simp only [List.map_cons, noKL, noK, ih, Bool.and_self]
                exact key _
            · cases hnew; rfl
            · split at hnew
              · rename_i ob hl
                split at hnew
                · rename_i s' hs'
                  cases hc : (Nat.beq (_ * s') ob.cs.length && Nat.beq (s + 1) s') with
                  | false => rw [hc] at hnew; cases hnew
                  | true =>
                    rw [hc] at hnew; cases hnew
                    exact noKL_take (noKL_drop (noKH_get hn hl))
                · cases hnew
              · cases hnew
            · cases hnew
          have iap : ∀ bs len cap, iappend P #[st, xt] [.slice bs len cap, .slice a mm c] H = iappend2 P el i bs len cap H (some (mm, vs)) := fun bs len cap => by
            unfold iappend
            simp only [elemT_inv he, elemT_inv he2, hi, hnews]
          -- it grows into a new block
          have grow : ∀ (old : List PV) (ovs : List Value) (n : Nat) (bs : Option Addr) (cap kk : Nat) (H1 : IH) (php : PHp) (p : Nat → Bool), pgrow P el (s + 1) old n new mm kk php = some (y, ph') → VRL P Z H (own m ph) old ovs → ovs.all oneCell = true → cap < n + mm → firstI i.size n H (.slice bs n cap) = some ovs →
              ikill el H bs = some H1 → H1.size = H.size → H1.base = H.base → (∀ b, b < H.size → (∀ ob0, plook kk ph = some ob0 → real ob0 → b ≠ m kk) → H1.get b = H.get b) → (∀ j, j ≠ kk → plook j php = plook j ph) →
              (p kk = true ∨ ∃ ob0, plook kk ph = some ob0 ∧ ob0.cs.length < (old ++ new).length ∧ ob0.el = el) → (∀ j, p j = true → j = kk ∧ noKH kk ph = true ∧ noKL kk (old ++ new) = true) → (∀ j, p j = true → (j == k) = true) →
              Res P Z H m ph (fun j => j == k) y ph' (iappend2 P el i bs n cap H (some (mm, vs))) := by
            intro old ovs n bs cap kk H1 php p hg hro ho1 hcap hfi hki q1 q2 q3 q4 q5 q6 q7
            unfold pgrow at hg
            cases hc : (Nat.ble (n + mm) 1048576 && (smallT P el && (Nat.beq (old.length) (n * (s + 1)) && (Nat.beq new.length (mm * (s + 1)) && new.all pone)))) with
            | false => rw [hc] at hg; cases hg
            | true =>
              rw [hc] at hg
              simp only [cond_true] at hg
              simp only [Bool.and_eq_true] at hc
              obtain ⟨c1, c2, c3, c4, c5⟩ := hc
              obtain ⟨rfl, rfl⟩ := pnew_inv hg
              have l1 := Nat.le_of_ble_eq_true c1
              have l3 := Nat.eq_of_beq_eq_true c3
              have l4 := Nat.eq_of_beq_eq_true c4
              have hv1 := hr.one c5
              obtain ⟨r1, r2, r3⟩ := hp.pushG (p := p) (k := kk) (ob := ⟨el, true, old ++ new⟩) (vs := ovs ++ vs) (ph0 := php) q1 q2 q3 (by simpa using q5) (by simpa using q6) (hro.append hr) (by rw [List.all_append, ho1, hv1]; rfl) hb q4
              refine ⟨_, _, Z, _, ?_, r1, own_is own_new hs (by omega) (by simp only [List.length_append, l3, l4, Nat.add_mul]) (fun _ => by omega), r2, fun j b' ob' hM => ?_⟩
              · unfold iappend2
                simp only []
                rw [if_neg (by omega)]
                unfold igrow
                rw [if_pos (small_grow hi c2 l1 hv1)]
                simp only [hfi, hki, q1]
                rfl
              · rcases r3 j b' ob' hM with h | h | h
                · exact .inl h
                · exact .inr (.inl h)
                · exact .inr (.inr (q7 j h))
          split at h
          · -- nil
            have := pl_ok hbase rfl
            subst this
            cases h0 : Nat.beq mm 0 with
            | true =>
              rw [h0] at h; cases h
              have hm0 := Nat.eq_of_beq_eq_true h0
              subst hm0
              have hv0 : vs = [] := by
                have := hr.len
                rw [hlen] at this
                exact List.length_eq_zero_iff.1 (by omega)
              subst hv0
              refine .same ?_ hp hbase
              rw [show ([st, xt] : List TypeId).toArray = #[st, xt] from rfl, iap]
              rfl
            | false =>
              rw [h0] at h
              have hm0 : mm ≠ 0 := fun e => by subst e; cases h0
              rw [show ([st, xt] : List TypeId).toArray = #[st, xt] from rfl, iap]
              exact grow [] [] 0 none 0 k H ph (fun j => j == k) h .nil rfl (by omega) (by unfold firstI; simp) rfl rfl rfl (fun _ _ _ => rfl) (fun _ _ => rfl) (.inl (by simp)) (fun j hj => ⟨by simpa using hj, hn, by simpa using hnewk⟩) (fun j hj => hj)
          · -- a slice of an object
            rename_i j tt o n
            split at h
            · rename_i ob hl
              cases hc : (Nat.beq ob.el el && (Nat.beq (tt * (s + 1)) ob.cs.length && Nat.beq o 0)) with
              | false => rw [hc] at h; cases h
              | true =>
                rw [hc] at h
                simp only [cond_true] at h
                simp only [Bool.and_eq_true] at hc
                obtain ⟨c1, c2, c3⟩ := hc
                have e1 := Nat.eq_of_beq_eq_true c1
                have e2 := Nat.eq_of_beq_eq_true c2
                have e3 := Nat.eq_of_beq_eq_true c3
                subst e1 e3
                obtain ⟨hO, hpos⟩ := own_live hbase hl hs e2
                rw [show ([st, xt] : List TypeId).toArray = #[st, xt] from rfl]
                cases h0 : Nat.beq mm 0 with
                | true =>
                  rw [h0] at h; cases h
                  have hm0 := Nat.eq_of_beq_eq_true h0
                  subst hm0
                  have hv0 : vs = [] := by
                    have := hr.len
                    rw [hlen] at this
                    exact List.length_eq_zero_iff.1 (by omega)
                  subst hv0
                  rcases hO with ⟨g1, rfl, _, rfl, rfl⟩ | ⟨g1, g2, g3, rfl⟩
                  · refine .same ?_ hp hbase
                    rw [iap]; rfl
                  · refine .same ?_ hp hbase
                    rw [iap]
                    unfold iappend2
                    simp only []
                    rw [if_pos (by omega)]
                    unfold iroom
                    have hsp : (cond ob.gr (some ob.el) none : Option TypeId) = none ∨ (cond ob.gr (some ob.el) none : Option TypeId) = some ob.el := by cases ob.gr <;> simp
                    simp only [spot_all hsp, if_true, List.isEmpty_nil, Nat.add_zero]
                | false =>
                  rw [h0] at h
                  simp only [cond_false] at h
                  have hm0 : mm ≠ 0 := fun e => by subst e; cases h0
                  cases hroom : Nat.ble (n + mm) tt with
                  | true =>
                    rw [hroom] at h
                    simp only [cond_true] at h
                    have hrm := Nat.le_of_ble_eq_true hroom
                    cases hc2 : (Nat.beq new.length (mm * (s + 1)) && new.all pone) with
                    | false => rw [hc2] at h; cases h
                    | true =>
                      rw [hc2] at h; cases h
                      rw [Bool.and_eq_true] at hc2
                      rcases hO with ⟨g1, rfl, _, rfl, rfl⟩ | ⟨g1, g2, g3, rfl⟩
                      · omega
                      · have hre := own_real e2 hpos g1
                        obtain ⟨w1, w2, w3, ws, q1, q2, q3⟩ := hp.real hl hre
                        have hle : (n + mm) * (s + 1) ≤ tt * (s + 1) := Nat.mul_le_mul_right _ hrm
                        rw [Nat.add_mul] at hle
                        have hv1 := hr.one hc2.2
                        obtain ⟨r1, r2, r3⟩ := hp.put (cs := pover ob.cs (n * (s + 1)) new) hl hre (over_len (by omega)) (q2.over hr (n * (s + 1))) (over_one q3 hv1)
                        refine ⟨.slice (some ⟨m j, 0 * (s + 1), cond ob.gr (some ob.el) none⟩) (n + mm) (tt - 0), _, Z, m, ?_, r1, ?_, r2, r3 _⟩
                        · rw [iap]
                          unfold iappend2
                          simp only []
                          rw [if_pos (by omega)]
                          unfold iroom
                          have hsp : (cond ob.gr (some ob.el) none : Option TypeId) = none ∨ (cond ob.gr (some ob.el) none : Option TypeId) = some ob.el := by cases ob.gr <;> simp
                          simp only [spot_all hsp, if_true]
                          have hne : vs.isEmpty = false := by
                            have := hr.len
                            rw [hlen] at this
                            cases vs with
                            | nil =>
                              have h9 : mm * (s + 1) = 0 := this
                              rcases Nat.mul_eq_zero.1 h9 with h9 | h9 <;> omega
                            | cons => rfl
                          rw [hne]
                          simp only [Bool.false_eq_true, if_false]
                          have hst : H.stores (m j) (0 * (s + 1) + n * i.size) vs = some (H.put (m j) (.cells (overwrite ws (n * (s + 1)) vs).toArray ob.el (cond ob.gr roomFz (0, 0)))) := by
                            unfold IH.stores
                            rw [q1]
                            simp only [hisz, Nat.zero_mul, Nat.zero_add]
                            rw [if_pos]
                            simp only [free_gr, hv1, w2, decide_true, Bool.and_true, Bool.true_and, decide_eq_true_eq, List.size_toArray]
                            rw [← q2.len, ← hr.len]; omega
                          rw [hst]
                        · refine .own rfl fun b' ob' hM => ?_
                          have hk : own m (pset j { ob with cs := pover ob.cs (n * (s + 1)) new } ph) j = some (m j, { ob with cs := pover ob.cs (n * (s + 1)) new }) := by
                            unfold own; rw [plook_set, if_pos ⟨rfl, by rw [hl]; rfl⟩]; rfl
                          rw [hk] at hM; cases hM
                          have hol : (pover ob.cs (n * (s + 1)) new).length = ob.cs.length := over_len (by omega)
                          exact ⟨s + 1, hs, by omega, by show tt * (s + 1) ≤ (pover ob.cs (n * (s + 1)) new).length; omega, fun _ => .inr ⟨g1, by omega, .inl rfl, rfl⟩⟩
                  | false =>
                    rw [hroom] at h
                    simp only [cond_false] at h
                    have hrm : tt < n + mm := by
                      have : ¬ (n + mm ≤ tt) := fun hle => by rw [Nat.ble_eq_true_of_le hle] at hroom; cases hroom
                      omega
                    cases hnt : Nat.beq n tt with
                    | false => rw [hnt] at h; cases h
                    | true =>
                      rw [hnt] at h
                      simp only [cond_true] at h
                      have hnt := Nat.eq_of_beq_eq_true hnt
                      subst hnt
                      have hlong : ob.cs.length < (ob.cs ++ new).length := by
                        simp only [List.length_append, hlen]
                        have : 0 < mm * (s + 1) := Nat.mul_pos (by omega) (by omega)
                        omega
                      cases hgr : ob.gr with
                      | true =>
                        rw [hgr] at h
                        simp only [cond_true] at h
                        rcases hO with ⟨g1, rfl, _, _, rfl⟩ | ⟨g1, g2, g3, rfl⟩
                        · have hc0 : ob.cs = [] := List.length_eq_zero_iff.1 (by omega)
                          rw [iap]
                          rw [hc0] at h hlong
                          exact grow [] [] 0 none 0 j H (pdel j ph) (fun _ => false) h .nil rfl (by omega) (by unfold firstI; simp) rfl rfl rfl (fun _ _ _ => rfl) (fun i hi => by rw [plook_del, if_neg hi]) (.inr ⟨ob, hl, by rw [hc0]; exact hlong, rfl⟩) (fun _ h => by cases h) (fun _ h => by cases h)
                        · have hre := own_real e2 hpos g1
                          obtain ⟨w1, w2, w3, ws, q1, q2, q3⟩ := hp.real hl hre
                          rw [hgr] at q1
                          rw [iap]
                          refine grow ob.cs ws n _ _ j (H.put (m j) deadObj) (pdel j ph) (fun _ => false) h q2 q3 (by omega) ?_ ?_ rfl rfl ?_ (fun i hi => by rw [plook_del, if_neg hi]) (.inr ⟨ob, hl, hlong, rfl⟩) (fun _ h => by cases h) (fun _ h => by cases h)
                          · unfold firstI
                            simp only [hisz, Nat.zero_mul]
                            refine loads_cells q1 (by rw [← q2.len]; omega) ?_
                            rw [List.drop_zero, List.take_of_length_le (by rw [← q2.len]; omega)]
                          · unfold ikill
                            rw [hgr]
                            simp only [cond_true, q1]
                            rw [if_pos (by simp [w2]; rfl)]
                          · intro b hb' hne
                            exact get_put_ne (hne ob hl hre)
                      | false =>
                        rw [hgr] at h
                        simp only [cond_false] at h
                        rcases hO with ⟨g1, _⟩ | ⟨g1, g2, g3, rfl⟩
                        · rw [hgr] at g1; cases g1
                        · have hre := own_real e2 hpos g1
                          obtain ⟨w1, w2, w3, ws, q1, q2, q3⟩ := hp.real hl hre
                          rw [hgr] at q1
                          rw [iap]
                          refine grow ob.cs ws n _ _ k H ph (fun i => i == k) h q2 q3 (by omega) ?_ ?_ rfl rfl (fun _ _ _ => rfl) (fun _ _ => rfl) (.inl (by simp)) (fun i hi => ⟨by simpa using hi, hn, by rw [noKL_app, noKH_get hn hl, hnewk]; rfl⟩) (fun _ h => h)
                          · unfold firstI
                            simp only [hisz, Nat.zero_mul]
                            refine loads_cells q1 (by rw [← q2.len]; omega) ?_
                            rw [List.drop_zero, List.take_of_length_le (by rw [← q2.len]; omega)]
                          · rw [hgr]; rfl
            · cases h
          · cases h
        · cases h
      · cases h
    · cases h
  · cases h
end Go.Idl
