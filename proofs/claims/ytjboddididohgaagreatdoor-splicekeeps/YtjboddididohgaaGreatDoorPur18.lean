/- More rules by which a region is run. Conditions: none. -/
import Derived.Test.YtjboddididohgaaGreatDoorPur17
import Derived.KernelRfl
set_option linter.all false
namespace Go.Idl
variable [Gc]
variable {P : Program} {G : Nat -> Bool} {nat : y8} {tab : uL} {inl : FuncId -> Bool} {nm : Nm} {good : FuncId -> Bool} {rd : Bool}
section
variable {ds : List (Option Tmp)} {o : Oper} {l : List Oper} {env : List PV} {ph : PHp} {b : DB} {zAS : List PV} {i : Nat} {E F : List (Nat × List Nat)} {N : List (Nat × Nat)} {V : List (Nat × PV)}
noncomputable def qOY (P : Program) (tab : uL) (nm : Nm) (ds : List (Option Tmp)) (b : DB) (zAS : List PV) (i : Nat) (o : Oper) (l : List Oper) (env : List PV) (ph : PHp) (E F : List (Nat × List Nat)) (N : List (Nat × Nat)) (V : List (Nat × PV)) : PE -> PT
 | .ok v ph' => qCV (needs o.op) (inP nm (qH nm o.dst) && fZ (qH nm o.dst) ph) (qHT P tab nm ds b zAS (i + 1) l (yK env o.dst v) ph' (cond (qU o) ((i, wlT nm o env) :: E) E) (cond (qU o) F ((i, dlT o env) :: F)) (cond (needs o.op) ((i, qH nm o.dst) :: N) N) ((i, v) :: V))
 | _ => .fail
noncomputable def q8K (P : Program) (tab : uL) (nm : Nm) (ds : List (Option Tmp)) (b : DB) (zAS : List PV) (i : Nat) (o : Oper) (l : List Oper) (env : List PV) (ph : PHp) (E F : List (Nat × List Nat)) (N : List (Nat × Nat)) (V : List (Nat × PV)) (c : Option Bool) : PT :=
 jW c (qOY P tab nm ds b zAS i o l env ph E F N V (zI P tab (qH nm o.dst) o env ph)) (qHT P tab nm ds b zAS (i + 1) l (yK env o.dst (.tup [])) ph E F N ((i, .tup []) :: V)) .fail
theorem qZN : qHT P tab nm ds b zAS i [] env ph E F N V = .chk (mG b zAS E F N V) (.ret env ph) := Eq.trans rfl rfl
theorem qVR : qHT P tab nm ds b zAS i (o :: l) env ph E F N V = q8K P tab nm ds b zAS i o l env ph E F N V (jZ ds o env) := by
 unfold qHT q8K qOY;cases zI P tab (qH nm o.dst) o env ph <;> rfl
theorem qTU : q8K P tab nm ds b zAS i o l env ph E F N V (some true) = qOY P tab nm ds b zAS i o l env ph E F N V (zI P tab (qH nm o.dst) o env ph) := Eq.trans rfl rfl
theorem qPZ : q8K P tab nm ds b zAS i o l env ph E F N V (some false) = qHT P tab nm ds b zAS (i + 1) l (yK env o.dst (.tup [])) ph E F N ((i, .tup []) :: V) := Eq.trans rfl rfl
theorem qR5 {v : PV} {ph' : PHp} : qOY P tab nm ds b zAS i o l env ph E F N V (.ok v ph') = qCV (needs o.op) (inP nm (qH nm o.dst) && fZ (qH nm o.dst) ph) (qHT P tab nm ds b zAS (i + 1) l (yK env o.dst v) ph' (cond (qU o) ((i, wlT nm o env) :: E) E) (cond (qU o) F ((i, dlT o env) :: F)) (cond (needs o.op) ((i, qH nm o.dst) :: N) N) ((i, v) :: V)) := Eq.trans rfl rfl
end
theorem zBH.zH3 (s : zBH P good nat G tab) {id : Nat} {ops : Array Oper} {env : List PV} {ph : PHp} {Q : PQ} {ds : List (Option Tmp)} {t : PT} (hok : uE G ops = true) (hd : fM ops = true) (hal : fQ ops = true) (hds : ops.toList.map (·.dst) = ds)
 (ht : qHT P tab nm ds (dBo ops) env 0 ops.toList env ph [] [] [] [] = t) (h : t.holds P G fun e p => Q .normal e p) : Runs P G rd nm (.region id ops true) env ph Q := s.drw hok hd hal hds (ht ▸ h)
theorem qOA {ph ph' : PHp} {x y : PV} (h : fzP P ph x = some (y, ph')) : qHM y = true := by
 unfold fzP at h;split at h
 ·split at h
  ·rename_i ys p' hf;cases h;show ((ys.map PV.f).all qRM) = true;rw [zKL];intro z hz;obtain ⟨w, _, rfl⟩ := zLC.1 hz;rfl
  ·cases h
 ·split at h
  ·cases h; rfl
  ·cases h
theorem VRL.slot {Z : Nat -> Prop} {H : IH} {M : Nat -> Option (Nat × PO)} {env : List PV} {zAO : Env} (he : VRL P Z H M env zAO) {i : Nat} {v : Value} {y : PV} (hv : zAO[i]? = some v) (hy : VR P Z H M y v) : VRL P Z H M (xB env i y) zAO := by
 rw [zB];have := he.set hy i
 have e : zAO.set i v = zAO := by
  apply zLR;intro j;rw [zLD];by_cases hij : i = j
  ·subst hij;rw [if_pos rfl, hv];simp [(zKN.1 hv).1]
  ·rw [if_neg hij]
 rwa [e] at this
end Go.Idl
