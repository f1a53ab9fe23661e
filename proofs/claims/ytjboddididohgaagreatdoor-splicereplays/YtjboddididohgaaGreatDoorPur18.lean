/- More rules by which a region is run. Conditions: none. -/
import Derived.Test.YtjboddididohgaaGreatDoorPur17
import Derived.KernelRfl
set_option linter.all false
namespace Go.Idl
variable [Gc]
variable {P : Program} {G : Nat -> Bool} {nat : y7} {tab : uH} {inl : FuncId -> Bool} {nm : Nm} {good : FuncId -> Bool} {rd : Bool}
section
variable {ds : List (Option Tmp)} {o : Oper} {l : List Oper} {env : List PV} {ph : PHp} {b : DB} {zAD : List PV} {i : Nat} {E F : List (Nat × List Nat)} {N : List (Nat × Nat)} {V : List (Nat × PV)}
noncomputable def qOQ (P : Program) (tab : uH) (nm : Nm) (ds : List (Option Tmp)) (b : DB) (zAD : List PV) (i : Nat) (o : Oper) (l : List Oper) (env : List PV) (ph : PHp) (E F : List (Nat × List Nat)) (N : List (Nat × Nat)) (V : List (Nat × PV)) : PE -> PT
 | .ok v ph' => qCO (needs o.op) (inP nm (qH nm o.dst) && fG (qH nm o.dst) ph) (qI3 P tab nm ds b zAD (i + 1) l (yI env o.dst v) ph' (cond (qR o) ((i, wlT nm o env) :: E) E) (cond (qR o) F ((i, dlT o env) :: F)) (cond (needs o.op) ((i, qH nm o.dst) :: N) N) ((i, v) :: V))
 | _ => .fail
noncomputable def q7N (P : Program) (tab : uH) (nm : Nm) (ds : List (Option Tmp)) (b : DB) (zAD : List PV) (i : Nat) (o : Oper) (l : List Oper) (env : List PV) (ph : PHp) (E F : List (Nat × List Nat)) (N : List (Nat × Nat)) (V : List (Nat × PV)) (c : Option Bool) : PT :=
 jW c (qOQ P tab nm ds b zAD i o l env ph E F N V (zG P tab (qH nm o.dst) o env ph)) (qI3 P tab nm ds b zAD (i + 1) l (yI env o.dst (.tup [])) ph E F N ((i, .tup []) :: V)) .fail
theorem qWT : qI3 P tab nm ds b zAD i [] env ph E F N V = .chk (dS b zAD E F N V) (.ret env ph) := Eq.trans rfl rfl
theorem qTA : qI3 P tab nm ds b zAD i (o :: l) env ph E F N V = q7N P tab nm ds b zAD i o l env ph E F N V (jX ds o env) := by
 unfold qI3 q7N qOQ;cases zG P tab (qH nm o.dst) o env ph <;> rfl
theorem qTJ : q7N P tab nm ds b zAD i o l env ph E F N V (some true) = qOQ P tab nm ds b zAD i o l env ph E F N V (zG P tab (qH nm o.dst) o env ph) := Eq.trans rfl rfl
theorem qP1 : q7N P tab nm ds b zAD i o l env ph E F N V (some false) = qI3 P tab nm ds b zAD (i + 1) l (yI env o.dst (.tup [])) ph E F N ((i, .tup []) :: V) := Eq.trans rfl rfl
theorem qV2 {v : PV} {ph' : PHp} : qOQ P tab nm ds b zAD i o l env ph E F N V (.ok v ph') = qCO (needs o.op) (inP nm (qH nm o.dst) && fG (qH nm o.dst) ph) (qI3 P tab nm ds b zAD (i + 1) l (yI env o.dst v) ph' (cond (qR o) ((i, wlT nm o env) :: E) E) (cond (qR o) F ((i, dlT o env) :: F)) (cond (needs o.op) ((i, qH nm o.dst) :: N) N) ((i, v) :: V)) := Eq.trans rfl rfl
end
theorem zA3.zHO (s : zA3 P good nat G tab) {id : Nat} {ops : Array Oper} {env : List PV} {ph : PHp} {Q : PQ} {ds : List (Option Tmp)} {t : PT} (hok : w9 G ops = true) (hd : fA ops = true) (hal : fD ops = true) (hds : ops.toList.map (·.dst) = ds)
 (ht : qI3 P tab nm ds (dBo ops) env 0 ops.toList env ph [] [] [] [] = t) (h : t.holds P G fun e p => Q .normal e p) : Runs P G rd nm (.region id ops true) env ph Q := s.drw hok hd hal hds (ht ▸ h)
theorem qO5 {ph ph' : PHp} {x y : PV} (h : fzP P ph x = some (y, ph')) : qHK y = true := by
 unfold fzP at h;split at h
 ·split at h
  ·rename_i ys p' hf;cases h;show ((ys.map PV.f).all qRA) = true;rw [zJ8];intro z hz;obtain ⟨w, _, rfl⟩ := zKX.1 hz;rfl
  ·cases h
 ·split at h
  ·cases h; rfl
  ·cases h
theorem VRL.slot {Z : Nat -> Prop} {H : IH} {M : Nat -> Option (Nat × PO)} {env : List PV} {q99 : Env} (he : VRL P Z H M env q99) {i : Nat} {v : Value} {y : PV} (hv : q99[i]? = some v) (hy : VR P Z H M y v) : VRL P Z H M (xA env i y) q99 := by
 rw [zA];have := he.set hy i
 have e : q99.set i v = q99 := by
  apply zLH;intro j;rw [zK2];by_cases hij : i = j
  ·subst hij;rw [if_pos rfl, hv];simp [(zKA.1 hv).1]
  ·rw [if_neg hij]
 rwa [e] at this
end Go.Idl
