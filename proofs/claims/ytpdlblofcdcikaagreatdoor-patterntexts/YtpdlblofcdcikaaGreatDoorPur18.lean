/- More rules by which a region is run. Conditions: none. -/
import Derived.Test.YtpdlblofcdcikaaGreatDoorPur17
import Derived.KernelRfl
set_option linter.all false
namespace Go.Idl
variable [Gc]
variable {P : Program} {G : Nat -> Bool} {nat : yU} {tab : aV} {inl : FuncId -> Bool} {nm : Nm} {good : FuncId -> Bool} {rd : Bool}
section
variable {ds : List (Option Tmp)} {o : Oper} {l : List Oper} {env : List PV} {ph : PHp} {b : Array Nat} {env0 : List PV} {i : Nat} {E F : List (Nat × List Nat)} {N : List (Nat × Nat)} {V : List (Nat × PV)}
noncomputable def qNE (P : Program) (tab : aV) (nm : Nm) (ds : List (Option Tmp)) (b : Array Nat) (env0 : List PV) (i : Nat) (o : Oper) (l : List Oper) (env : List PV) (ph : PHp) (E F : List (Nat × List Nat)) (N : List (Nat × Nat)) (V : List (Nat × PV)) : PE -> PT
 | .ok v ph' => qWE (needs o.op) (inP nm (zH nm o.dst) && pG (zH nm o.dst) ph) (qJ1 P tab nm ds b env0 (i + 1) l (yR env o.dst v) ph' (cond (zA o) ((i, wlT nm o env) :: E) E) (cond (zA o) F ((i, dlT o env) :: F)) (cond (needs o.op) ((i, zH nm o.dst) :: N) N) ((i, v) :: V))
 | _ => .fail
noncomputable def q6G (P : Program) (tab : aV) (nm : Nm) (ds : List (Option Tmp)) (b : Array Nat) (env0 : List PV) (i : Nat) (o : Oper) (l : List Oper) (env : List PV) (ph : PHp) (E F : List (Nat × List Nat)) (N : List (Nat × Nat)) (V : List (Nat × PV)) (c : Option Bool) : PT :=
 kL c (qNE P tab nm ds b env0 i o l env ph E F N V (yF P tab (zH nm o.dst) o env ph)) (qJ1 P tab nm ds b env0 (i + 1) l (yR env o.dst (.tup [])) ph E F N ((i, .tup []) :: V)) .fail
theorem qYG : qJ1 P tab nm ds b env0 i [] env ph E F N V = .chk (mY b env0 E F N V) (.ret env ph) := Eq.trans rfl rfl
theorem qS1 : qJ1 P tab nm ds b env0 i (o :: l) env ph E F N V = q6G P tab nm ds b env0 i o l env ph E F N V (eG ds o env) := by
 unfold qJ1 q6G qNE;cases yF P tab (zH nm o.dst) o env ph <;> rfl
theorem qT2 : q6G P tab nm ds b env0 i o l env ph E F N V (some true) = qNE P tab nm ds b env0 i o l env ph E F N V (yF P tab (zH nm o.dst) o env ph) := Eq.trans rfl rfl
theorem qRA : q6G P tab nm ds b env0 i o l env ph E F N V (some false) = qJ1 P tab nm ds b env0 (i + 1) l (yR env o.dst (.tup [])) ph E F N ((i, .tup []) :: V) := Eq.trans rfl rfl
theorem qTK {v : PV} {ph' : PHp} : qNE P tab nm ds b env0 i o l env ph E F N V (.ok v ph') = qWE (needs o.op) (inP nm (zH nm o.dst) && pG (zH nm o.dst) ph) (qJ1 P tab nm ds b env0 (i + 1) l (yR env o.dst v) ph' (cond (zA o) ((i, wlT nm o env) :: E) E) (cond (zA o) F ((i, dlT o env) :: F)) (cond (needs o.op) ((i, zH nm o.dst) :: N) N) ((i, v) :: V)) := Eq.trans rfl rfl
end
theorem PSet.regE (s : PSet P good nat G tab) {id : Nat} {ops : Array Oper} {y : Code} {env : List PV} {ph : PHp} {Q : PQ} {ds : List (Option Tmp)} {t : PT} (inl : FuncId -> Bool) (hok : jB G ops = true) (hds : ops.toList.map (·.dst) = ds)
 (ht : pops P tab inl nm ds ops.toList env ph = t) (h : t.holds P G fun e p => Runs P G rd nm y e p Q) : Runs P G rd nm (.seq (.region id ops false) y) env ph Q := s.regS hok hds (ht ▸ h)
theorem PSet.regZ (s : PSet P good nat G tab) {id : Nat} {ops : Array Oper} {env : List PV} {ph : PHp} {Q : PQ} {ds : List (Option Tmp)} {t : PT} (inl : FuncId -> Bool) (hok : jB G ops = true) (hds : ops.toList.map (·.dst) = ds)
 (ht : pops P tab inl nm ds ops.toList env ph = t) (h : t.holds P G fun e p => Q .normal e p) : Runs P G rd nm (.region id ops false) env ph Q := s.reg hok hds (ht ▸ h)
theorem PSet.drwZ (s : PSet P good nat G tab) {id : Nat} {ops : Array Oper} {env : List PV} {ph : PHp} {Q : PQ} {ds : List (Option Tmp)} {t : PT} (hok : jB G ops = true) (hd : wR ops = true) (hal : gN ops = true) (hds : ops.toList.map (·.dst) = ds)
 (ht : qJ1 P tab nm ds (Region.before ops) env 0 ops.toList env ph [] [] [] [] = t) (h : t.holds P G fun e p => Q .normal e p) : Runs P G rd nm (.region id ops true) env ph Q := s.drw hok hd hal hds (ht ▸ h)
theorem qNG {ph ph' : PHp} {x y : PV} (h : fzP P ph x = some (y, ph')) : qRE y = true := by
 unfold fzP at h;split at h
 ·split at h
  ·rename_i ys p' hf;cases h;show ((ys.map PV.f).all q3F) = true;rw [List.all_eq_true];intro z hz;obtain ⟨w, _, rfl⟩ := List.mem_map.1 hz;rfl
  ·cases h
 ·split at h
  ·cases h; rfl
  ·cases h
theorem VRL.slot {Z : Nat -> Prop} {H : IH} {M : Nat -> Option (Nat × PO)} {env : List PV} {ienv : Env} (he : VRL P Z H M env ienv) {i : Nat} {v : Value} {y : PV} (hv : ienv[i]? = some v) (hy : VR P Z H M y v) : VRL P Z H M (xU env i y) ienv := by
 rw [zV];have := he.set hy i
 have e : ienv.set i v = ienv := by
  apply List.ext_getElem?;intro j;rw [List.getElem?_set];by_cases hij : i = j
  ·subst hij;rw [if_pos rfl, hv];simp [(List.getElem?_eq_some_iff.1 hv).1]
  ·rw [if_neg hij]
 rwa [e] at this
theorem Runs.freeze {c : Code} {env : List PV} {ph ph' : PHp} {Q : PQ} (i : Nat) {x : PV} {y : PV} (hi : zM env i = some x) (hf : fzP P ph x = some (y, ph')) (h : Runs P G rd nm c (xU env i y) ph' Q) : Runs P G rd nm c env ph Q := by
 intro Z H m ienv hp hb he;rw [qH] at hi;obtain ⟨v, hv, hr⟩ := he.get hi;obtain ⟨Z', h1, h2⟩ := qI0 hp hr hf;refine (h Z' H m ienv h1.hp hb ((h1.vrl he).slot hv (bZ h2 (qNG hf)))).mono ?_;rintro o ⟨Z2, m2, env2, ph2, a, b, c, d, e⟩;exact ⟨Z2, m2, env2, ph2, a, b, h1.step.trans c, (h1.kr _).trans d, e⟩
theorem Runs.virt {c : Code} {env : List PV} {ph : PHp} {Q : PQ} (i k : Nat) (el : TypeId) {s : Nat} (hi : zM env i = some (fvv (.slice none 0 0))) (hs : szT P el = some (s + 1)) (hf : fresh nm k env ph = true) (h : Runs P G rd nm c (xU env i (.own k 0 0 0)) ((k, ⟨el, true, []⟩) :: ph) Q) : Runs P G rd nm c env ph Q := by
 intro Z H m ienv hp hb he;rw [qH] at hi;obtain ⟨v, hv, hr⟩ := he.get hi;have hvn : v = .slice none 0 0 := zU hr rfl;subst hvn;obtain ⟨f1, f2, f3⟩ := q3U nm hf;have hnew : own m ((k, ⟨el, true, []⟩) :: ph) k = some (m k, ⟨el, true, []⟩) := by simp [own, qC]
 have hold : ∀ j, j ≠ k -> own m ((k, ⟨el, true, []⟩) :: ph) j = own m ph j := fun j hj => by
  unfold own; rw [vX hj]
 have hkr : KR (fun j => j == k) (own m ph) (own m ((k, ⟨el, true, []⟩) :: ph)) := fun j b ob hk => by
  by_cases hj : j = k
  ·exact .inr (.inr (by simp [hj]))
  ·rw [hold j hj] at hk; exact .inl ⟨ob, hk, rfl, rfl, rfl⟩
 have mono : ∀ {xs : List PV} {vs : List Value}, VRL P Z H (own m ph) xs vs -> yV k xs = true -> VRL P Z H (own m ((k, ⟨el, true, []⟩) :: ph)) xs vs := fun h hn => h.mono (fun _ h => h) (Nat.le_refl _) (fun _ _ _ => rfl) hkr fun j hj => by
  have : j = k := by simpa using hj
  subst this; exact hn
 have hp' : Hp P Z H (own m ((k, ⟨el, true, []⟩) :: ph)) := by
  refine ⟨hp.zlt, fun j b ob hk => ?_, fun j j' b b' ob ob' h1 h2 r1 r2 hne => ?_, hp.gl⟩
  ·by_cases hj : j = k
   ·subst hj; rw [hnew] at hk; cases hk; exact .inl ⟨rfl, rfl⟩
   ·rw [hold j hj] at hk
    rcases hp.obj j b ob hk with h | ⟨a1, a2, a3, a4⟩
    ·exact .inl h
    ·exact .inr ⟨a1, a2, a3, a4.mono rfl fun _ a5 => mono a5 (vW f3 (wP hk).1)⟩
  ·by_cases hj : j = k
   ·subst hj; rw [hnew] at h1; cases h1; exact absurd ⟨rfl, rfl⟩ r1
   ·by_cases hj' : j' = k
    ·subst hj'; rw [hnew] at h2; cases h2; exact absurd ⟨rfl, rfl⟩ r2
    ·rw [hold j hj] at h1; rw [hold j' hj'] at h2;exact hp.inj j j' b b' ob ob' h1 h2 r1 r2 hne
 have hown : VR P Z H (own m ((k, ⟨el, true, []⟩) :: ph)) (.own k 0 0 0) (.slice none 0 0) := .own rfl fun b ob hM => by
  rw [hnew] at hM; cases hM;exact ⟨s + 1, hs, by omega, by simp, fun _ => .inl ⟨rfl, rfl, rfl, rfl, rfl⟩⟩
 have hst : Step Z H (own m ph) Z H (own m ((k, ⟨el, true, []⟩) :: ph)) := ⟨Nat.le_refl _, rfl, fun _ h => h, fun _ _ _ => rfl, fun b h _ => .inl h, fun b ⟨j, ob, h1, h2⟩ _ => by
  by_cases hj : j = k
  ·subst hj; rw [hnew] at h1; cases h1; exact absurd ⟨rfl, rfl⟩ h2
  ·rw [hold j hj] at h1; exact ⟨j, ob, h1, h2⟩⟩
 refine (h Z H m ienv hp' hb ((mono he f2).slot hv hown)).mono ?_;rintro o ⟨Z2, m2, env2, ph2, a, b, c, d, e⟩
 have hup : KR (inP nm) (own m ph) (own m ((k, ⟨el, true, []⟩) :: ph)) := hkr.up fun j hj => by
  have e : j = k := by simpa using hj
  rw [e]; exact f1
 exact ⟨Z2, m2, env2, ph2, a, b, hst.trans c, hup.trans d, e⟩
end Go.Idl
