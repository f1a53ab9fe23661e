/- More rules by which a region is run. Conditions: none. -/
import Derived.Test.YtpdlblofcdcikaaGreatDoorPur17
import Derived.KernelRfl
set_option linter.all false
namespace Go.Idl
variable [Gc]
variable {P : Program} {G : Nat -> Bool} {nat : xJ} {tab : fT} {inl : FuncId -> Bool} {nm : Nm} {good : FuncId -> Bool} {rd : Bool}
variable {c : Code} {id : Nat} {ops : Array Oper} {ph' : PHp} {x y : PV}
section
variable {ds : List (Option Tmp)} {o : Oper} {l : List Oper} {env : List PV} {ph : PHp} {b : Array Nat} {env0 : List PV} {i : Nat} {E F : List (Nat × List Nat)} {N : List (Nat × Nat)} {V : List (Nat × PV)}
noncomputable def qPD (P : Program) (tab : fT) (nm : Nm) (ds : List (Option Tmp)) (b : Array Nat) (env0 : List PV) (i : Nat) (o : Oper) (l : List Oper) (env : List PV) (ph : PHp) (E F : List (Nat × List Nat)) (N : List (Nat × Nat)) (V : List (Nat × PV)) : PE -> PT
 | .ok v ph' => qU5 (needs o.op) (inP nm (zQ nm o.dst) && rV (zQ nm o.dst) ph) (qJN P tab nm ds b env0 (i + 1) l (xE env o.dst v) ph' (cond (zM o) ((i, wlT nm o env) :: E) E) (cond (zM o) F ((i, dlT o env) :: F)) (cond (needs o.op) ((i, zQ nm o.dst) :: N) N) ((i, v) :: V))
 | _ => .fail
noncomputable def q8I (P : Program) (tab : fT) (nm : Nm) (ds : List (Option Tmp)) (b : Array Nat) (env0 : List PV) (i : Nat) (o : Oper) (l : List Oper) (env : List PV) (ph : PHp) (E F : List (Nat × List Nat)) (N : List (Nat × Nat)) (V : List (Nat × PV)) (c : Option Bool) : PT :=
 j5 c (qPD P tab nm ds b env0 i o l env ph E F N V (yS P tab (zQ nm o.dst) o env ph)) (qJN P tab nm ds b env0 (i + 1) l (xE env o.dst (.tup [])) ph E F N ((i, .tup []) :: V)) .fail
theorem qXS : qJN P tab nm ds b env0 i [] env ph E F N V = .chk (dN b env0 E F N V) (.ret env ph) := Eq.trans rfl rfl
theorem qWK : qJN P tab nm ds b env0 i (o :: l) env ph E F N V = q8I P tab nm ds b env0 i o l env ph E F N V (cK ds o env) := by
 unfold qJN q8I qPD;cases yS P tab (zQ nm o.dst) o env ph <;> rfl
theorem qVO : q8I P tab nm ds b env0 i o l env ph E F N V (some true) = qPD P tab nm ds b env0 i o l env ph E F N V (yS P tab (zQ nm o.dst) o env ph) := Eq.trans rfl rfl
theorem qPV : q8I P tab nm ds b env0 i o l env ph E F N V (some false) = qJN P tab nm ds b env0 (i + 1) l (xE env o.dst (.tup [])) ph E F N ((i, .tup []) :: V) := Eq.trans rfl rfl
theorem qTU {v : PV} : qPD P tab nm ds b env0 i o l env ph E F N V (.ok v ph') = qU5 (needs o.op) (inP nm (zQ nm o.dst) && rV (zQ nm o.dst) ph) (qJN P tab nm ds b env0 (i + 1) l (xE env o.dst v) ph' (cond (zM o) ((i, wlT nm o env) :: E) E) (cond (zM o) F ((i, dlT o env) :: F)) (cond (needs o.op) ((i, zQ nm o.dst) :: N) N) ((i, v) :: V)) := Eq.trans rfl rfl
end
theorem PSet.regE (s : PSet P good nat G tab) {y : Code} {env : List PV} {ph : PHp} {Q : PQ} {ds : List (Option Tmp)} {t : PT} (inl : FuncId -> Bool) (hok : kW G ops = true) (hds : ops.toList.map (·.dst) = ds)
 (ht : pops P tab inl nm ds ops.toList env ph = t) (h : t.holds P G fun e p => Runs P G rd nm y e p Q) : Runs P G rd nm (.seq (.region id ops false) y) env ph Q := s.regS hok hds (ht ▸ h)
theorem PSet.regZ (s : PSet P good nat G tab) {env : List PV} {ph : PHp} {Q : PQ} {ds : List (Option Tmp)} {t : PT} (inl : FuncId -> Bool) (hok : kW G ops = true) (hds : ops.toList.map (·.dst) = ds)
 (ht : pops P tab inl nm ds ops.toList env ph = t) (h : t.holds P G fun e p => Q .normal e p) : Runs P G rd nm (.region id ops false) env ph Q := s.reg hok hds (ht ▸ h)
theorem PSet.drwZ (s : PSet P good nat G tab) {env : List PV} {ph : PHp} {Q : PQ} {ds : List (Option Tmp)} {t : PT} (hok : kW G ops = true) (hd : uX ops = true) (hal : uU ops = true) (hds : ops.toList.map (·.dst) = ds)
 (ht : qJN P tab nm ds (Region.before ops) env 0 ops.toList env ph [] [] [] [] = t) (h : t.holds P G fun e p => Q .normal e p) : Runs P G rd nm (.region id ops true) env ph Q := s.drw hok hd hal hds (ht ▸ h)
theorem qOV {ph : PHp} (h : fzP P ph x = some (y, ph')) : qRL y = true := by
 unfold fzP at h;split at h
 ·split at h
  ·rename_i ys p' hf;cases h;show ((ys.map PV.f).all q2E) = true;rw [List.all_eq_true];intro z hz;obtain ⟨w, _, rfl⟩ := List.mem_map.1 hz;rfl
  ·cases h
 ·split at h
  ·cases h; rfl
  ·cases h
theorem VRL.slot {Z : Nat -> Prop} {H : IH} {M : Nat -> Option (Nat × PO)} {env : List PV} {ienv : Env} (he : VRL P Z H M env ienv) {i : Nat} {v : Value} (hv : ienv[i]? = some v) (hy : VR P Z H M y v) : VRL P Z H M (kN env i y) ienv := by
 rw [yJ];have := he.set hy i
 have e : ienv.set i v = ienv := by
  apply List.ext_getElem?;intro j;rw [List.getElem?_set];by_cases hij : i = j
  ·subst hij;rw [if_pos rfl, hv];simp [(List.getElem?_eq_some_iff.1 hv).1]
  ·rw [if_neg hij]
 rwa [e] at this
theorem Runs.freeze {env : List PV} {ph : PHp} {Q : PQ} (i : Nat) (hi : z8 env i = some x) (hf : fzP P ph x = some (y, ph')) (h : Runs P G rd nm c (kN env i y) ph' Q) : Runs P G rd nm c env ph Q := by
 intro Z H m ienv hp hb he;rw [qG] at hi;obtain ⟨v, hv, hr⟩ := he.get hi;obtain ⟨Z', h1, h2⟩ := qI3 hp hr hf;refine (h Z' H m ienv h1.hp hb ((h1.vrl he).slot hv (bU h2 (qOV hf)))).mono ?_;rintro o ⟨Z2, m2, env2, ph2, a, b, c, d, e⟩;exact ⟨Z2, m2, env2, ph2, a, b, h1.step.trans c, (h1.kr _).trans d, e⟩
theorem Runs.virt {env : List PV} {ph : PHp} {Q : PQ} (i k : Nat) (el : TypeId) {s : Nat} (hi : z8 env i = some (fvv (.slice none 0 0))) (hs : szT P el = some (s + 1)) (hf : fresh nm k env ph = true) (h : Runs P G rd nm c (kN env i (.own k 0 0 0)) ((k, ⟨el, true, []⟩) :: ph) Q) : Runs P G rd nm c env ph Q := by
 intro Z H m ienv hp hb he;rw [qG] at hi;obtain ⟨v, hv, hr⟩ := he.get hi;have hvn : v = .slice none 0 0 := kC hr rfl;subst hvn;obtain ⟨f1, f2, f3⟩ := q5R nm hf;have hnew : own m ((k, ⟨el, true, []⟩) :: ph) k = some (m k, ⟨el, true, []⟩) := by simp [own, qE]
 have hold : ∀ j, j ≠ k -> own m ((k, ⟨el, true, []⟩) :: ph) j = own m ph j := fun j hj => by
  unfold own; rw [vS hj]
 have hkr : KR (fun j => j == k) (own m ph) (own m ((k, ⟨el, true, []⟩) :: ph)) := fun j b ob hk => by
  by_cases hj : j = k
  ·exact .inr (.inr (by simp [hj]))
  ·rw [hold j hj] at hk; exact .inl ⟨ob, hk, rfl, rfl, rfl⟩
 have mono : ∀ {xs : List PV} {vs : List Value}, VRL P Z H (own m ph) xs vs -> xR k xs = true -> VRL P Z H (own m ((k, ⟨el, true, []⟩) :: ph)) xs vs := fun h hn => h.mono (fun _ h => h) (Nat.le_refl _) (fun _ _ _ => rfl) hkr fun j hj => by
  have : j = k := by simpa using hj
  subst this; exact hn
 have hp' : Hp P Z H (own m ((k, ⟨el, true, []⟩) :: ph)) := by
  refine ⟨hp.zlt, fun j b ob hk => ?_, fun j j' b b' ob ob' h1 h2 r1 r2 hne => ?_, hp.gl⟩
  ·by_cases hj : j = k
   ·subst hj; rw [hnew] at hk; cases hk; exact .inl ⟨rfl, rfl⟩
   ·rw [hold j hj] at hk
    rcases hp.obj j b ob hk with h | ⟨a1, a2, a3, a4⟩
    ·exact .inl h
    ·exact .inr ⟨a1, a2, a3, a4.mono rfl fun _ a5 => mono a5 (uE f3 (gX hk).1)⟩
  ·by_cases hj : j = k
   ·subst hj; rw [hnew] at h1; cases h1; exact absurd ⟨rfl, rfl⟩ r1
   ·by_cases hj' : j' = k
    ·subst hj'; rw [hnew] at h2; cases h2; exact absurd ⟨rfl, rfl⟩ r2
    ·rw [hold j hj] at h1; rw [hold j' hj'] at h2;exact hp.inj j j' b b' ob ob' h1 h2 r1 r2 hne
 have hown : VR P Z H (own m ((k, ⟨el, true, []⟩) :: ph)) (.own k 0 0 0) (.slice none 0 0) := .own rfl fun b ob hM => by
  rw [hnew] at hM; cases hM;exact ⟨s + 1, hs, by omega, by simp, fun _ => .inl ⟨rfl, rfl, rfl, rfl, rfl⟩⟩
 have hst : Step Z H (own m ph) Z H (own m ((k, ⟨el, true, []⟩) :: ph)) := ⟨Nat.le_refl _, rfl, fun _ h => h, fun _ _ _ => rfl, fun b h _ => .inl h, fun b ⟨j, ob, h1, h2⟩ _ => by
  by_cases hj : j = k
  ·subst hj; rw [hnew] at h1; cases h1; exact absurd ⟨rfl, rfl⟩ h2
  ·rw [hold j hj] at h1; exact ⟨j, ob, h1, h2⟩⟩
 refine (h Z H m ienv hp' hb ((mono he f2).slot hv hown)).mono ?_;rintro o ⟨Z2, m2, env2, ph2, a, b, c, d, e⟩
 have hup : KR (inP nm) (own m ph) (own m ((k, ⟨el, true, []⟩) :: ph)) := hkr.up fun j hj => by
  have e : j = k := by simpa using hj
  rw [e]; exact f1
 exact ⟨Z2, m2, env2, ph2, a, b, hst.trans c, hup.trans d, e⟩
end Go.Idl
