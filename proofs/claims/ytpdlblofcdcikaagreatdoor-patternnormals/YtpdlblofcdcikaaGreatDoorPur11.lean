/- The operations of a region on values without a heap are those of the model. Conditions: none. -/
import Derived.Test.YtpdlblofcdcikaaGreatDoorPur10
set_option linter.unusedSimpArgs false
set_option linter.unusedVariables false
namespace Go.Idl
variable {P : Program} {Z : Nat → Prop} {H : IH} {m : Nat → Nat} {ph : PHp} {G : Nat → Bool} {nat : Nats} {tab : PTab} {inl : FuncId → Bool} {nm : Nm}

def failRun : Job → IH → T Out := fun _ _ => .fail
theorem cs_nat (hs : NatSpec P G nat) : CallSpec P G (enterT failRun nat) := by
  intro g args args' H f w Q hR hG ha h
  unfold enterT at h
  split at h
  · rename_i k hk; exact hs g k hk args args' H f w Q hR hG ha h
  · exact h.elim
theorem rs_fail : RoundSpec P G failRun := by
  intro l args args' H f w e Q hR hG he ha hq
  exact hq.elim
theorem ns_none : NatSpec P G fun _ => none := fun g k h => by cases h
/-- a contract for one call -/
noncomputable def natOne (g : FuncId) (args : List Value) (H : IH) (Q : Value × IH → Prop) : Nats := by
  classical
  exact fun g1 => if g1 = g then some (fun a h => if a = args ∧ h = H then .sp Q .ret else .fail) else none
theorem ns_one {g : FuncId} {args : List Value} {H : IH} {Q : Value × IH → Prop} (h : CallI P G g args H Q) : NatSpec P G (natOne g args H Q) := by
  classical
  intro g1 k hk args1 args' H1 f1 w1 Q1 hR1 hG1 ha1 hq1
  unfold natOne at hk
  split at hk
  · rename_i hg1
    subst hg1
    cases hk
    change T.holds Q1 (if args1 = args ∧ H1 = H then T.sp Q T.ret else T.fail) at hq1
    split at hq1
    · rename_i hc
      obtain ⟨rfl, rfl⟩ := hc
      exact (h.mono fun r hr => hq1 r hr) args' f1 w1 hR1 hG1 ha1
    · exact hq1.elim
  · cases hk
theorem nat_one {g : FuncId} {args : List Value} {H : IH} {Q : Value × IH → Prop} : enterT failRun (natOne g args H Q) g args H = .sp Q .ret := by
  classical
  unfold enterT natOne
  simp
/-- the function that is called, and its arguments -/
def target (fv : PV) (args : List PV) : Option (FuncId × List PV) := match fv with
  | .f (.v (.func (.func g) a c)) => cond (a.toList.isEmpty && c.toList.isEmpty) (some (g, args)) none
  | .fn g first cap => some (g, first ++ (args ++ cap))
  | _ => none
theorem pcallV_target {fv : PV} {args : List PV} {r : PE} (h : pcallV P tab inl fv args ph = r) (hr : r ≠ .fail) (hr2 : ∀ x a p, r ≠ .rnd x a p) : ∃ g as, target fv args = some (g, as) ∧ pcallG P tab inl g as ph = r := by
  unfold pcallV at h
  unfold target
  split at h
  · rename_i g a c
    cases hc : (a.toList.isEmpty && c.toList.isEmpty) with
    | false => rw [hc] at h; exact absurd h.symm hr
    | true => rw [hc] at h; exact ⟨g, args, (by simp only; rw [hc]; rfl), h⟩
  · exact absurd h.symm (hr2 _ _ _)
  · exact ⟨_, _, rfl, h⟩
  · exact absurd h.symm hr
theorem target_ok {o : Oper} {x : Operand} {oargs : Array Operand} {ts : Array TypeId} {env : List PV} {ienv : Env} {g : FuncId} {as : List PV} (he : VRL P Z H (own m ph) env ienv) (h : target (pval env x) (oargs.toList.map (pval env)) = some (g, as)) (hent : enters P g = true) :
    ∃ iargs, icallOp P o ⟨.value x, oargs, ts⟩ ienv H = some (.enter g iargs H) ∧ VRL P Z H (own m ph) as iargs := by
  have hx := pval_ok he x
  have ha := VRL.of he oargs.toList
  unfold target at h
  split at h
  · rename_i g' a c hfv
    rw [hfv] at hx
    have hv := pl_ok hx rfl
    cases hc : (a.toList.isEmpty && c.toList.isEmpty) with
    | false => rw [hc] at h; cases h
    | true =>
      rw [hc] at h; cases h
      rw [Bool.and_eq_true] at hc
      have e1 : a.toList = [] := by simpa using hc.1
      have e2 : c.toList = [] := by simpa using hc.2
      refine ⟨_, call_func hv hent, ?_⟩
      rw [e1, e2, mapR_eq]
      simpa [appR_eq] using ha
  · rename_i g' first cap hfv
    cases h
    rw [hfv] at hx
    cases hv : ienv.val x with
    | func fn fs cs =>
      rw [hv] at hx
      cases hx with
      | fn hf hc hfc hcc =>
        refine ⟨_, call_func hv hent, ?_⟩
        rw [appR_eq, appR_eq, mapR_eq]
        exact VRL.append ⟨by simpa using hf, fun i x v a b => hfc i x v a (by simpa using b)⟩ (ha.append ⟨by simpa using hc, fun i x v a b => hcc i x v a (by simpa using b)⟩)
    | _ => rw [hv] at hx; cases hx
  · cases h
theorem noKf (nm : Nm) {k : Nat} {env : List PV} (h : fresh nm k env ph = true) : inP nm k = true ∧ noKL k env = true ∧ noKH k ph = true := by
  unfold fresh at h
  simp only [Bool.and_eq_true] at h
  exact h
theorem exec_ok {F : Fence} (hF : Free F) (hns : NatSpec P G nat) (ht : TabOk P nat tab) {o : Oper} {env : List PV} {ienv : Env} {f : Inj} {a : Act} {w : World} {v : PV} {ph' : PHp} (hR : Rel P f H w) (hG : Glob G f) (henv : VRelL P f ienv a.tmps.toList)
    (hok : o.op.operands.toList.all (opdOk (globOk f)) = true) (hp : Hp P Z H (own m ph)) (hb : H.base ≤ H.size) (he : VRL P Z H (own m ph) env ienv) (hx : pexec P tab inl (labOf nm o.dst) o env ph = .ok v ph') (hn : needs o.op = true → fresh nm (labOf nm o.dst) env ph = true)
    {K : Act → World → Prop} {Qx : Exit → Act → World → Prop}
    (hK : ∀ (Z' : Nat → Prop) (m' : Nat → Nat) (u : Value) (H' : IH) (f' : Inj) (v' : Value) (w' : World), Hp P Z' H' (own m' ph') → VR P Z' H' (own m' ph') v u → VRL P Z' H' (own m' ph') env ienv → Step Z H (own m ph) Z' H' (own m' ph') → KR (inP nm) (own m ph) (own m' ph') →
      Rel P f' H' w' → Grow f H w f' H' w' → VRel P f' u v' → K (a.put o.dst v') w') : o.wpIn F 0 P a w K Qx := by
  have plain : peO (pop1 P o env (labOf nm o.dst) ph) = .ok v ph' → o.wpIn F 0 P a w K Qx := fun hx => by
    unfold peO at hx
    split at hx
    · rename_i r hr
      cases hx
      obtain ⟨u, H', Z', m', h1, h2, h3, h4, h5⟩ := pop1_ok hp hb he (fun h => (noKf nm (hn h)).2) hr
      refine op_sound (run := failRun) (nat := fun _ => none) (G := G) (Q := fun r => r = (u, H')) hF (cs_nat ns_none) rs_fail hR hG henv hok ?_ ?_
      · unfold iop1; rw [h1]; rfl
      · rintro r v' w' f' rfl k1 k2 k3
        refine hK Z' m' u H' f' v' w' h2 h3 ?_ h4 ?_ k1 k2 k3
        · refine he.mono h4.zle h4.size (hp.zkeep h4) h5 fun j hj => ?_
          unfold nw at hj
          rw [Bool.and_eq_true] at hj
          have : j = labOf nm o.dst := by simpa using hj.2
          subst this
          exact (noKf nm (hn hj.1)).2.1
        · refine h5.up fun j hj => ?_
          unfold nw at hj
          rw [Bool.and_eq_true] at hj
          have : j = labOf nm o.dst := by simpa using hj.2
          subst this
          exact (noKf nm (hn hj.1)).1
    · cases hx
  unfold pexec at hx
  split at hx
  · rename_i x oargs ts hop
    obtain ⟨g, as, h1, h2⟩ := pcallV_target hx (fun h => by cases h) (fun _ _ _ h => by cases h)
    unfold pcallG at h2
    cases hi : inl g with
    | true => rw [hi] at h2; cases h2
    | false =>
      rw [hi] at h2
      simp only [cond_false] at h2
      unfold pcallT at h2
      split at h2
      · rename_i fargs ph1 hfz
        split at h2
        · rename_i r hr
          have hv : r = v ∧ cond (plainR r) ph ph1 = ph' := by
            injection h2 with e1 e2
            exact ⟨e1, e2⟩
          obtain ⟨rfl, hph⟩ := hv
          obtain ⟨hent, hfr, k, hk, hctr⟩ := ht g _ r hr
          obtain ⟨iargs, q1, q2⟩ := target_ok (o := o) (ts := ts) he h1 hent
          obtain ⟨Z1, c1, r1⟩ := fzA_ok hp q2 hfz
          let Q : Value × IH → Prop := fun x => ∃ Z' : Nat → Prop, Old H x.2 ∧ (∀ b, Z1 b → Z' b) ∧ (∀ b, Z' b → b < x.2.size) ∧ (∀ b, Z' b → b < H.size → Z1 b) ∧ VR P Z' x.2 (fun _ => none) r x.1
          have hQ : (k iargs H).holds Q := hctr Z1 H iargs (rtA_ok r1) c1.hp.zlt hb Q fun v H' Z' a1 a2 a3 a4 a5 => ⟨Z', a1, a2, a3, a4, a5⟩
          refine op_sound (run := failRun) (nat := nat) (G := G) (Q := Q) hF (cs_nat hns) rs_fail hR hG henv hok ?_ ?_
          · have : iop P o ienv H = some (.enter g iargs H) := by
              unfold iop; rw [hop]; exact q1
            unfold iop1
            rw [this]
            show (enterT failRun nat g iargs H).holds Q
            unfold enterT
            rw [hk]
            exact hQ
          · rintro ⟨u, H'⟩ v' w' f' ⟨Z', a1, a2, a3, a4, a5⟩ k1 k2 k3
            cases hpl : plainR r with
            | true =>
              rw [hpl] at hph
              have hph : ph = ph' := hph
              subst hph
              have z1 : ∀ b, Z b → b < H'.size := fun b hb => Nat.lt_of_lt_of_le (hp.zlt b hb) a1.size
              exact hK Z m u H' f' v' w' (hp.old a1 (fun _ h => h) z1 (fun _ h _ => h)) (plainR_any a5 hpl _ _ _) (he.mono (p := fun _ => false) (fun _ h => h) a1.size (fun b _ hb => a1.get b hb) (.refl _ _) (fun j hj => by cases hj)) (.old a1 (fun _ h => h) (fun _ h _ => h)) (.refl _ _) k1 k2 k3
            | false =>
              rw [hpl] at hph
              have hph : ph1 = ph' := hph
              subst hph
              exact hK Z' m u H' f' v' w' (c1.hp.old a1 a2 a3 a4) (frzR_any a5 hfr) ((c1.vrl he).mono (p := fun _ => false) a2 a1.size (fun b _ hb => a1.get b hb) (.refl _ _) (fun j hj => by cases hj)) (c1.step.trans (.old a1 a2 a4)) (c1.kr _) k1 k2 k3
        · cases h2
      · cases h2
  · exact plain hx

theorem clean_at {p : Nat → Bool} {env : List PV} : ∀ {ph : PHp} {k : Nat}, clean p env ph = true → (p k && (plook k ph).isSome) = true → noKL k env = true
  | [], k, _, h => by simp [plook] at h
  | (j, o) :: ph, k, h, hk => by
    have h : ((!p j || noKL j env) && clean p env ph) = true := h
    rw [Bool.and_eq_true] at h hk
    obtain ⟨hk1, hk2⟩ := hk
    have hk2 : (cond (k == j) (some o) (plook k ph)).isSome = true := hk2
    cases e : k == j with
    | true =>
      have : k = j := by simpa using e
      subst this
      have := h.1
      rw [hk1] at this
      simpa using this
    | false =>
      rw [e] at hk2
      exact clean_at h.2 (by rw [hk1]; exact hk2)
theorem KR.act {p : Nat → Bool} {M : Nat → Option (Nat × PO)} {m : Nat → Nat} {ph : PHp} (h : KR p M (own m ph)) : KR (fun k => p k && (plook k ph).isSome) M (own m ph) := fun k b ob hk => by
  rcases h k b ob hk with q | q | q
  · exact .inl q
  · exact .inr (.inl q)
  · obtain ⟨hl, _⟩ := own_inv hk
    exact .inr (.inr (by show (p k && (plook k ph).isSome) = true; rw [q, hl]; rfl))
theorem call_ok {F : Fence} (hF : Free F) {o : Oper} {env : List PV} {ienv : Env} {f : Inj} {a : Act} {w : World} {g : FuncId} {as : List PV} {ph' : PHp} {R : PV → PHp → Prop} (hR : Rel P f H w) (hG : Glob G f) (henv : VRelL P f ienv a.tmps.toList)
    (hok : o.op.operands.toList.all (opdOk (globOk f)) = true) (hp : Hp P Z H (own m ph)) (hb : H.base ≤ H.size) (he : VRL P Z H (own m ph) env ienv) (hx : pexec P tab inl (labOf nm o.dst) o env ph = .call g as ph') (hc : CallP P G (subN nm g) g as ph' R) (hcl : ∀ v ph2, R v ph2 → clean (subN nm g).p env ph2 = true)
    {K : Act → World → Prop} {Qx : Exit → Act → World → Prop}
    (hK : ∀ (Z' : Nat → Prop) (m' : Nat → Nat) (v : PV) (ph2 : PHp) (u : Value) (H' : IH) (f' : Inj) (v' : Value) (w' : World), R v ph2 → Hp P Z' H' (own m' ph2) → VR P Z' H' (own m' ph2) v u → VRL P Z' H' (own m' ph2) env ienv → Step Z H (own m ph) Z' H' (own m' ph2) → KR (inP nm) (own m ph) (own m' ph2) →
      Rel P f' H' w' → Grow f H w f' H' w' → VRel P f' u v' → K (a.put o.dst v') w') : o.wpIn F 0 P a w K Qx := by
  unfold pexec at hx
  split at hx
  · rename_i x oargs ts hop
    obtain ⟨g1, as1, h1, h2⟩ := pcallV_target hx (fun h => by cases h) (fun _ _ _ h => by cases h)
    unfold pcallG at h2
    cases hi : inl g1 with
    | false =>
      rw [hi] at h2
      exfalso
      have h2 : pcallT P tab g1 as1 ph = .call g as ph' := h2
      unfold pcallT at h2
      split at h2
      · split at h2 <;> cases h2
      · cases h2
    | true =>
      rw [hi] at h2
      have h2 : PE.call g1 as1 ph = .call g as ph' := h2
      cases h2
      obtain ⟨hent, hc⟩ := hc
      obtain ⟨iargs, q1, q2⟩ := target_ok (o := o) (ts := ts) he h1 hent
      have hci := hc Z H m iargs hp hb q2
      refine op_sound (run := failRun) (nat := natOne g iargs H _) (G := G) hF (cs_nat (ns_one hci)) rs_fail hR hG henv hok (Q := fun r => ∃ Z' m' pv ph', Hp P Z' r.2 (own m' ph') ∧ VR P Z' r.2 (own m' ph') pv r.1 ∧ Step Z H (own m ph) Z' r.2 (own m' ph') ∧ KR (subN nm g).p (own m ph) (own m' ph') ∧ R pv ph') ?_ ?_
      · have : iop P o ienv H = some (.enter g iargs H) := by
          unfold iop; rw [hop]; exact q1
        unfold iop1
        rw [this]
        show (enterT failRun (natOne g iargs H _) g iargs H).holds _
        rw [nat_one]
        intro r hr
        exact hr
      · rintro ⟨u, H'⟩ v' w' f' ⟨Z', m', pv, ph2, b1, b2, b3, b4, b5⟩ k1 k2 k3
        exact hK Z' m' pv ph2 u H' f' v' w' b5 b1 b2 (he.mono b3.zle b3.size (hp.zkeep b3) (KR.act b4) fun j hj => clean_at (hcl _ _ b5) hj) b3 (b4.up fun k h => by
          have h : (inB _ k && nm.p k) = true := h
          rw [Bool.and_eq_true] at h
          exact h.2) k1 k2 k3
  · unfold peO at hx
    split at hx <;> cases hx

end Go.Idl
