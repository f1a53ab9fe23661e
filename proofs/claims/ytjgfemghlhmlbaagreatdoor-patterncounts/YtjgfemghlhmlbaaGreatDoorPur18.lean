/- More rules by which a region is run. Conditions: none. -/
import Derived.Test.YtjgfemghlhmlbaaGreatDoorPur17
import Derived.KernelRfl
set_option linter.all false
namespace Go.Idl
variable [Gc]
variable {P : Program} {G : Nat -> Bool} {nat : xG} {tab : fM} {inl : FuncId -> Bool} {nm : Nm} {good : FuncId -> Bool} {rd : Bool}
section
variable {ds : List (Option Tmp)} {o : Oper} {l : List Oper} {env : List PV} {ph : PHp} {b : DB} {zIK : List PV} {i : Nat} {E F : List (Nat × List Nat)} {N : List (Nat × Nat)} {V : List (Nat × PV)}
noncomputable def qPX (P : Program) (tab : fM) (nm : Nm) (ds : List (Option Tmp)) (b : DB) (zIK : List PV) (i : Nat) (o : Oper) (l : List Oper) (env : List PV) (ph : PHp) (E F : List (Nat × List Nat)) (N : List (Nat × Nat)) (V : List (Nat × PV)) : PE -> PT
 | .ok v ph' => q0M (needs o.op) (inP nm (zL nm o.dst) && dY (zL nm o.dst) ph) (qIU P tab nm ds b zIK (i + 1) l (yN env o.dst v) ph' (cond (zJ o) ((i, wlT nm o env) :: E) E) (cond (zJ o) F ((i, dlT o env) :: F)) (cond (needs o.op) ((i, zL nm o.dst) :: N) N) ((i, v) :: V))
 | _ => .fail
noncomputable def zDN (P : Program) (tab : fM) (nm : Nm) (ds : List (Option Tmp)) (b : DB) (zIK : List PV) (i : Nat) (o : Oper) (l : List Oper) (env : List PV) (ph : PHp) (E F : List (Nat × List Nat)) (N : List (Nat × Nat)) (V : List (Nat × PV)) (c : Option Bool) : PT :=
 vX c (qPX P tab nm ds b zIK i o l env ph E F N V (zY P tab (zL nm o.dst) o env ph)) (qIU P tab nm ds b zIK (i + 1) l (yN env o.dst (.tup [])) ph E F N ((i, .tup []) :: V)) .fail
theorem q2Y : qIU P tab nm ds b zIK i [] env ph E F N V = .chk (mH b zIK E F N V) (.ret env ph) := Eq.trans rfl rfl
theorem qXI : qIU P tab nm ds b zIK i (o :: l) env ph E F N V = zDN P tab nm ds b zIK i o l env ph E F N V (fK ds o env) := by
 unfold qIU zDN qPX;cases zY P tab (zL nm o.dst) o env ph <;> rfl
theorem qWS : zDN P tab nm ds b zIK i o l env ph E F N V (some true) = qPX P tab nm ds b zIK i o l env ph E F N V (zY P tab (zL nm o.dst) o env ph) := Eq.trans rfl rfl
theorem qTU : zDN P tab nm ds b zIK i o l env ph E F N V (some false) = qIU P tab nm ds b zIK (i + 1) l (yN env o.dst (.tup [])) ph E F N ((i, .tup []) :: V) := Eq.trans rfl rfl
theorem qWA {v : PV} {ph' : PHp} : qPX P tab nm ds b zIK i o l env ph E F N V (.ok v ph') = q0M (needs o.op) (inP nm (zL nm o.dst) && dY (zL nm o.dst) ph) (qIU P tab nm ds b zIK (i + 1) l (yN env o.dst v) ph' (cond (zJ o) ((i, wlT nm o env) :: E) E) (cond (zJ o) F ((i, dlT o env) :: F)) (cond (needs o.op) ((i, zL nm o.dst) :: N) N) ((i, v) :: V)) := Eq.trans rfl rfl
end
theorem zI6.zPL (s : zI6 P good nat G tab) {id : Nat} {ops : Array Oper} {env : List PV} {ph : PHp} {Q : PQ} {ds : List (Option Tmp)} {t : PT} (hok : fE G ops = true) (hd : aA ops = true) (hal : gD ops = true) (hds : ops.toList.map (·.dst) = ds)
 (ht : qIU P tab nm ds (dBo ops) env 0 ops.toList env ph [] [] [] [] = t) (h : t.holds P G fun e p => Q .normal e p) : Runs P G rd nm (.region id ops true) env ph Q := s.drw hok hd hal hds (ht ▸ h)
theorem qRP {ph ph' : PHp} {x y : PV} (h : fzP P ph x = some (y, ph')) : qUH y = true := by
 unfold fzP at h;split at h
 ·split at h
  ·rename_i ys p' hf;cases h;show ((ys.map PV.f).all q7F) = true;rw [zQR];intro z hz;obtain ⟨w, _, rfl⟩ := zQ9.1 hz;rfl
  ·cases h
 ·split at h
  ·cases h; rfl
  ·cases h
theorem VRL.slot {Z : Nat -> Prop} {H : IH} {M : Nat -> Option (Nat × PO)} {env : List PV} {zIC : Env} (he : VRL P Z H M env zIC) {i : Nat} {v : Value} {y : PV} (hv : zIC[i]? = some v) (hy : VR P Z H M y v) : VRL P Z H M (yQ env i y) zIC := by
 rw [qW];have := he.set hy i
 have e : zIC.set i v = zIC := by
  apply zRC;intro j;rw [zRD];by_cases hij : i = j
  ·subst hij;rw [if_pos rfl, hv];simp [(zQQ.1 hv).1]
  ·rw [if_neg hij]
 rwa [e] at this
end Go.Idl
