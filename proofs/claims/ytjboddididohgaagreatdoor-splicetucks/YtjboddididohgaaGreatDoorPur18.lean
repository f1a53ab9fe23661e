/- More rules by which a region is run. Conditions: none. -/
import Derived.Test.YtjboddididohgaaGreatDoorPur17
import Derived.KernelRfl
set_option linter.all false
namespace Go.Idl
variable [Gc]
variable {P : Program} {G : Nat -> Bool} {nat : y7} {tab : uH} {inl : FuncId -> Bool} {nm : Nm} {good : FuncId -> Bool} {rd : Bool}
section
variable {ds : List (Option Tmp)} {o : Oper} {l : List Oper} {env : List PV} {ph : PHp} {b : DB} {zAC : List PV} {i : Nat} {E F : List (Nat × List Nat)} {N : List (Nat × Nat)} {V : List (Nat × PV)}
noncomputable def qOG (P : Program) (tab : uH) (nm : Nm) (ds : List (Option Tmp)) (b : DB) (zAC : List PV) (i : Nat) (o : Oper) (l : List Oper) (env : List PV) (ph : PHp) (E F : List (Nat × List Nat)) (N : List (Nat × Nat)) (V : List (Nat × PV)) : PE -> PT
 | .ok v ph' => qCE (needs o.op) (inP nm (qH nm o.dst) && fI (qH nm o.dst) ph) (qHB P tab nm ds b zAC (i + 1) l (yH env o.dst v) ph' (cond (qW o) ((i, wlT nm o env) :: E) E) (cond (qW o) F ((i, dlT o env) :: F)) (cond (needs o.op) ((i, qH nm o.dst) :: N) N) ((i, v) :: V))
 | _ => .fail
noncomputable def q7S (P : Program) (tab : uH) (nm : Nm) (ds : List (Option Tmp)) (b : DB) (zAC : List PV) (i : Nat) (o : Oper) (l : List Oper) (env : List PV) (ph : PHp) (E F : List (Nat × List Nat)) (N : List (Nat × Nat)) (V : List (Nat × PV)) (c : Option Bool) : PT :=
 jU c (qOG P tab nm ds b zAC i o l env ph E F N V (zG P tab (qH nm o.dst) o env ph)) (qHB P tab nm ds b zAC (i + 1) l (yH env o.dst (.tup [])) ph E F N ((i, .tup []) :: V)) .fail
theorem qYC : qHB P tab nm ds b zAC i [] env ph E F N V = .chk (dI b zAC E F N V) (.ret env ph) := Eq.trans rfl rfl
theorem qR8 : qHB P tab nm ds b zAC i (o :: l) env ph E F N V = q7S P tab nm ds b zAC i o l env ph E F N V (jT ds o env) := by
 unfold qHB q7S qOG;cases zG P tab (qH nm o.dst) o env ph <;> rfl
theorem qVG : q7S P tab nm ds b zAC i o l env ph E F N V (some true) = qOG P tab nm ds b zAC i o l env ph E F N V (zG P tab (qH nm o.dst) o env ph) := Eq.trans rfl rfl
theorem qP6 : q7S P tab nm ds b zAC i o l env ph E F N V (some false) = qHB P tab nm ds b zAC (i + 1) l (yH env o.dst (.tup [])) ph E F N ((i, .tup []) :: V) := Eq.trans rfl rfl
theorem qS3 {v : PV} {ph' : PHp} : qOG P tab nm ds b zAC i o l env ph E F N V (.ok v ph') = qCE (needs o.op) (inP nm (qH nm o.dst) && fI (qH nm o.dst) ph) (qHB P tab nm ds b zAC (i + 1) l (yH env o.dst v) ph' (cond (qW o) ((i, wlT nm o env) :: E) E) (cond (qW o) F ((i, dlT o env) :: F)) (cond (needs o.op) ((i, qH nm o.dst) :: N) N) ((i, v) :: V)) := Eq.trans rfl rfl
end
theorem zA1.zHL (s : zA1 P good nat G tab) {id : Nat} {ops : Array Oper} {env : List PV} {ph : PHp} {Q : PQ} {ds : List (Option Tmp)} {t : PT} (hok : uE G ops = true) (hd : gY ops = true) (hal : gZ ops = true) (hds : ops.toList.map (·.dst) = ds)
 (ht : qHB P tab nm ds (dBo ops) env 0 ops.toList env ph [] [] [] [] = t) (h : t.holds P G fun e p => Q .normal e p) : Runs P G rd nm (.region id ops true) env ph Q := s.drw hok hd hal hds (ht ▸ h)
theorem qMZ {ph ph' : PHp} {x y : PV} (h : fzP P ph x = some (y, ph')) : qIC y = true := by
 unfold fzP at h;split at h
 ·split at h
  ·rename_i ys p' hf;cases h;show ((ys.map PV.f).all qQ5) = true;rw [zJ4];intro z hz;obtain ⟨w, _, rfl⟩ := zKT.1 hz;rfl
  ·cases h
 ·split at h
  ·cases h; rfl
  ·cases h
theorem VRL.slot {Z : Nat -> Prop} {H : IH} {M : Nat -> Option (Nat × PO)} {env : List PV} {q98 : Env} (he : VRL P Z H M env q98) {i : Nat} {v : Value} {y : PV} (hv : q98[i]? = some v) (hy : VR P Z H M y v) : VRL P Z H M (y9 env i y) q98 := by
 rw [zC];have := he.set hy i
 have e : q98.set i v = q98 := by
  apply zK9;intro j;rw [zKX];by_cases hij : i = j
  ·subst hij;rw [if_pos rfl, hv];simp [(zJ6.1 hv).1]
  ·rw [if_neg hij]
 rwa [e] at this
end Go.Idl
