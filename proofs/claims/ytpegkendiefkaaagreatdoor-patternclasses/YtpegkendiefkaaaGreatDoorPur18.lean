/- More rules by which a region is run. Conditions: none. -/
import Derived.Test.YtpegkendiefkaaaGreatDoorPur17
import Derived.KernelRfl
set_option linter.all false
namespace Go.Idl
variable [Gc]
variable {P : Program} {G : Nat -> Bool} {nat : xI} {tab : gY} {inl : FuncId -> Bool} {nm : Nm} {good : FuncId -> Bool} {rd : Bool}
section
variable {ds : List (Option Tmp)} {o : Oper} {l : List Oper} {env : List PV} {ph : PHp} {b : DB} {zHY : List PV} {i : Nat} {E F : List (Nat × List Nat)} {N : List (Nat × Nat)} {V : List (Nat × PV)}
noncomputable def qPC (P : Program) (tab : gY) (nm : Nm) (ds : List (Option Tmp)) (b : DB) (zHY : List PV) (i : Nat) (o : Oper) (l : List Oper) (env : List PV) (ph : PHp) (E F : List (Nat × List Nat)) (N : List (Nat × Nat)) (V : List (Nat × PV)) : PE -> PT
 | .ok v ph' => qV4 (needs o.op) (inP nm (zM nm o.dst) && eO (zM nm o.dst) ph) (qJX P tab nm ds b zHY (i + 1) l (yO env o.dst v) ph' (cond (zI o) ((i, wlT nm o env) :: E) E) (cond (zI o) F ((i, dlT o env) :: F)) (cond (needs o.op) ((i, zM nm o.dst) :: N) N) ((i, v) :: V))
 | _ => .fail
noncomputable def zCT (P : Program) (tab : gY) (nm : Nm) (ds : List (Option Tmp)) (b : DB) (zHY : List PV) (i : Nat) (o : Oper) (l : List Oper) (env : List PV) (ph : PHp) (E F : List (Nat × List Nat)) (N : List (Nat × Nat)) (V : List (Nat × PV)) (c : Option Bool) : PT :=
 wN c (qPC P tab nm ds b zHY i o l env ph E F N V (yC P tab (zM nm o.dst) o env ph)) (qJX P tab nm ds b zHY (i + 1) l (yO env o.dst (.tup [])) ph E F N ((i, .tup []) :: V)) .fail
theorem q3X : qJX P tab nm ds b zHY i [] env ph E F N V = .chk (mP b zHY E F N V) (.ret env ph) := Eq.trans rfl rfl
theorem qWX : qJX P tab nm ds b zHY i (o :: l) env ph E F N V = zCT P tab nm ds b zHY i o l env ph E F N V (fC ds o env) := by
 unfold qJX zCT qPC;cases yC P tab (zM nm o.dst) o env ph <;> rfl
theorem qYY : zCT P tab nm ds b zHY i o l env ph E F N V (some true) = qPC P tab nm ds b zHY i o l env ph E F N V (yC P tab (zM nm o.dst) o env ph) := Eq.trans rfl rfl
theorem qSN : zCT P tab nm ds b zHY i o l env ph E F N V (some false) = qJX P tab nm ds b zHY (i + 1) l (yO env o.dst (.tup [])) ph E F N ((i, .tup []) :: V) := Eq.trans rfl rfl
theorem qXU {v : PV} {ph' : PHp} : qPC P tab nm ds b zHY i o l env ph E F N V (.ok v ph') = qV4 (needs o.op) (inP nm (zM nm o.dst) && eO (zM nm o.dst) ph) (qJX P tab nm ds b zHY (i + 1) l (yO env o.dst v) ph' (cond (zI o) ((i, wlT nm o env) :: E) E) (cond (zI o) F ((i, dlT o env) :: F)) (cond (needs o.op) ((i, zM nm o.dst) :: N) N) ((i, v) :: V)) := Eq.trans rfl rfl
end
theorem zIN.zRZ (s : zIN P good nat G tab) {id : Nat} {ops : Array Oper} {env : List PV} {ph : PHp} {Q : PQ} {ds : List (Option Tmp)} {t : PT} (hok : fF G ops = true) (hd : aH ops = true) (hal : uX ops = true) (hds : ops.toList.map (·.dst) = ds)
 (ht : qJX P tab nm ds (dBo ops) env 0 ops.toList env ph [] [] [] [] = t) (h : t.holds P G fun e p => Q .normal e p) : Runs P G rd nm (.region id ops true) env ph Q := s.drw hok hd hal hds (ht ▸ h)
theorem qPX {ph ph' : PHp} {x y : PV} (h : fzP P ph x = some (y, ph')) : qT1 y = true := by
 unfold fzP at h;split at h
 ·split at h
  ·rename_i ys p' hf;cases h;show ((ys.map PV.f).all q8R) = true;rw [zT3];intro z hz;obtain ⟨w, _, rfl⟩ := zUN.1 hz;rfl
  ·cases h
 ·split at h
  ·cases h; rfl
  ·cases h
theorem VRL.slot {Z : Nat -> Prop} {H : IH} {M : Nat -> Option (Nat × PO)} {env : List PV} {zHR : Env} (he : VRL P Z H M env zHR) {i : Nat} {v : Value} {y : PV} (hv : zHR[i]? = some v) (hy : VR P Z H M y v) : VRL P Z H M (yT env i y) zHR := by
 rw [qV];have := he.set hy i
 have e : zHR.set i v = zHR := by
  apply zUX;intro j;rw [zUM];by_cases hij : i = j
  ·subst hij;rw [if_pos rfl, hv];simp [(zT2.1 hv).1]
  ·rw [if_neg hij]
 rwa [e] at this
end Go.Idl
