/- More rules by which a region is run. Conditions: none. -/
import Derived.Test.YtdhpibcacnndaaaGreatDoorPur17
import Derived.KernelRfl
set_option linter.all false
namespace Go.Idl
variable [Gc]
variable {P : Program} {G : Nat -> Bool} {nat : yV} {tab : uF} {inl : FuncId -> Bool} {nm : Nm} {good : FuncId -> Bool} {rd : Bool}
section
variable {ds : List (Option Tmp)} {o : Oper} {l : List Oper} {env : List PV} {ph : PHp} {b : DB} {q9I : List PV} {i : Nat} {E F : List (Nat × List Nat)} {N : List (Nat × Nat)} {V : List (Nat × PV)}
noncomputable def qN1 (P : Program) (tab : uF) (nm : Nm) (ds : List (Option Tmp)) (b : DB) (q9I : List PV) (i : Nat) (o : Oper) (l : List Oper) (env : List PV) (ph : PHp) (E F : List (Nat × List Nat)) (N : List (Nat × Nat)) (V : List (Nat × PV)) : PE -> PT
 | .ok v ph' => qB2 (needs o.op) (inP nm (qG nm o.dst) && fE (qG nm o.dst) ph) (qII P tab nm ds b q9I (i + 1) l (yB env o.dst v) ph' (cond (qQ o) ((i, wlT nm o env) :: E) E) (cond (qQ o) F ((i, dlT o env) :: F)) (cond (needs o.op) ((i, qG nm o.dst) :: N) N) ((i, v) :: V))
 | _ => .fail
noncomputable def q60 (P : Program) (tab : uF) (nm : Nm) (ds : List (Option Tmp)) (b : DB) (q9I : List PV) (i : Nat) (o : Oper) (l : List Oper) (env : List PV) (ph : PHp) (E F : List (Nat × List Nat)) (N : List (Nat × Nat)) (V : List (Nat × PV)) (c : Option Bool) : PT :=
 jP c (qN1 P tab nm ds b q9I i o l env ph E F N V (zC P tab (qG nm o.dst) o env ph)) (qII P tab nm ds b q9I (i + 1) l (yB env o.dst (.tup [])) ph E F N ((i, .tup []) :: V)) .fail
theorem qXL : qII P tab nm ds b q9I i [] env ph E F N V = .chk (dN b q9I E F N V) (.ret env ph) := Eq.trans rfl rfl
theorem qUQ : qII P tab nm ds b q9I i (o :: l) env ph E F N V = q60 P tab nm ds b q9I i o l env ph E F N V (jV ds o env) := by
 unfold qII q60 qN1;cases zC P tab (qG nm o.dst) o env ph <;> rfl
theorem qSC : q60 P tab nm ds b q9I i o l env ph E F N V (some true) = qN1 P tab nm ds b q9I i o l env ph E F N V (zC P tab (qG nm o.dst) o env ph) := Eq.trans rfl rfl
theorem qQB : q60 P tab nm ds b q9I i o l env ph E F N V (some false) = qII P tab nm ds b q9I (i + 1) l (yB env o.dst (.tup [])) ph E F N ((i, .tup []) :: V) := Eq.trans rfl rfl
theorem qST {v : PV} {ph' : PHp} : qN1 P tab nm ds b q9I i o l env ph E F N V (.ok v ph') = qB2 (needs o.op) (inP nm (qG nm o.dst) && fE (qG nm o.dst) ph) (qII P tab nm ds b q9I (i + 1) l (yB env o.dst v) ph' (cond (qQ o) ((i, wlT nm o env) :: E) E) (cond (qQ o) F ((i, dlT o env) :: F)) (cond (needs o.op) ((i, qG nm o.dst) :: N) N) ((i, v) :: V)) := Eq.trans rfl rfl
end
theorem q97.zGM (s : q97 P good nat G tab) {id : Nat} {ops : Array Oper} {env : List PV} {ph : PHp} {Q : PQ} {ds : List (Option Tmp)} {t : PT} (hok : wS G ops = true) (hd : gW ops = true) (hal : gX ops = true) (hds : ops.toList.map (·.dst) = ds)
 (ht : qII P tab nm ds (dBo ops) env 0 ops.toList env ph [] [] [] [] = t) (h : t.holds P G fun e p => Q .normal e p) : Runs P G rd nm (.region id ops true) env ph Q := s.drw hok hd hal hds (ht ▸ h)
theorem qOH {ph ph' : PHp} {x y : PV} (h : fzP P ph x = some (y, ph')) : qIM y = true := by
 unfold fzP at h;split at h
 ·split at h
  ·rename_i ys p' hf;cases h;show ((ys.map PV.f).all qQP) = true;rw [zI8];intro z hz;obtain ⟨w, _, rfl⟩ := zJX.1 hz;rfl
  ·cases h
 ·split at h
  ·cases h; rfl
  ·cases h
theorem VRL.slot {Z : Nat -> Prop} {H : IH} {M : Nat -> Option (Nat × PO)} {env : List PV} {q9E : Env} (he : VRL P Z H M env q9E) {i : Nat} {v : Value} {y : PV} (hv : q9E[i]? = some v) (hy : VR P Z H M y v) : VRL P Z H M (yY env i y) q9E := by
 rw [qY];have := he.set hy i
 have e : q9E.set i v = q9E := by
  apply zKG;intro j;rw [zJ4];by_cases hij : i = j
  ·subst hij;rw [if_pos rfl, hv];simp [(zJA.1 hv).1]
  ·rw [if_neg hij]
 rwa [e] at this
end Go.Idl
