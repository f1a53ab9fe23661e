/- Rules for runs at values that are not known. Conditions: none. -/
import Derived.Test.YtpdlblofcdcikaaGreatDoorIdlI
set_option linter.unusedSimpArgs false
set_option linter.unusedVariables false
namespace Go.Idl
variable {P : Program} {good : FuncId → Bool} {nat : Nats} {rd : Bool}

/-! ### Guards -/
/-! ### One operation -/
/-! ### Integers -/
section
variable {o : Oper} {t : TypeId} {k : IntKind} {a b : Int} {env : Env} {H : IH}
theorem bin_int {op : BinOp} {v : Value} (h : intBin op k a b = some v) : ibinOp P o op t (.int k a) (.int k b) env H = some (.val v H) := by
  unfold ibinOp intBin2 asI
  simp only [kIdx_self, cond_true, h]
end

/-! ### Slices -/
theorem index_slice {t e : TypeId} {b o len cap : Nat} {sp : Option TypeId} {k : IntKind} {i : Int} (ht : P.underlying t = some (.slice e)) (hs : szT P e = some 1) (h0 : 0 ≤ i) (hi : i < (len : Int)) :
    iindexAt P t (.slice (some ⟨b, o, sp⟩) len cap) (.int k i) = some (.pointer (some ⟨b, o + i.toNat, none⟩)) := by
  unfold iindexAt
  simp only [ht, hs]
  rw [if_pos (by simp [h0, hi]), Nat.mul_one]
theorem load_one {t : TypeId} {b i : Nat} {H : IH} {v : Value} (ht : aggT P t = some false) (h : H.load b i = some v) : iloadAt P t (.pointer (some ⟨b, i, none⟩)) H = some v := by
  unfold iloadAt
  simp only [ht, h]
noncomputable def enters (P : Program) (g : FuncId) : Bool := match P.funcs[g]? with
  | some fn => fn.body.isSome && (fn.name != "runtime.NumGoroutine")
  | none => false
theorem call_func {o : Oper} {f : Operand} {args : Array Operand} {ts : Array TypeId} {env : Env} {H : IH} {g : FuncId} {first captured : Array Value} (hf : env.val f = .func (.func g) first captured) (he : enters P g = true) :
    icallOp P o ⟨.value f, args, ts⟩ env H = some (.enter g (appR first.toList (appR (mapR env.val args.toList) captured.toList)) H) := by
  have : icall P ⟨.value f, args, ts⟩ env H = some (.enter g (appR first.toList (appR (mapR env.val args.toList) captured.toList)) H) := by
    unfold enters at he
    unfold icall
    simp only [hf]
    split at he
    · rename_i fn hfn
      simp only [Bool.and_eq_true] at he
      simp only [hfn, he.1, he.2, if_true]
    · cases he
  unfold icallOp
  rw [this]
end Go.Idl
namespace Go.Idl
variable {P : Program} {good : FuncId → Bool} {nat : Nats} {G : Nat → Bool} {rd : Bool}
/-! ### Guards -/
noncomputable def wantN (w : Bool) : Option Value → Option Bool
  | some v => iwantV w v
  | none => none
noncomputable def wantT (w : Bool) (env : Env) : Option Tmp → Option Bool
  | some t => wantN w (nthR env t)
  | none => some false
theorem want_guard {ops : Array Oper} {d : Option Tmp} {op : Op} {ty : TypeId} {p : String} {a : Array Edge} {env : Env} {j : Nat} {w : Bool} :
    iwanted ops ⟨d, op, ty, p, a, some (j, w)⟩ env = wantT w env ((ops[j]?).bind (·.dst)) := by
  unfold iwanted wantT
  simp only
  split
  · rename_i t ht; simp only [ht]; rfl
  · rename_i ht; simp only [ht]
end Go.Idl
namespace Go.Idl
end Go.Idl
namespace Go.Idl
variable {P : Program} {good : FuncId → Bool} {nat : Nats} {G : Nat → Bool} {rd : Bool}
/-! ### Operations, with what the guards look at alone -/
noncomputable def dstAt (ds : List (Option Tmp)) (j : Nat) : Option Tmp := match ds[j]? with
  | some d => d
  | none => none
noncomputable def iwantedE (ds : List (Option Tmp)) (o : Oper) (env : Env) : Option Bool := match o.guard with
  | none => some true
  | some (j, w) => wantT w env (dstAt ds j)
theorem iwantedE_eq (ops : Array Oper) (o : Oper) (env : Env) : iwanted ops o env = iwantedE (ops.toList.map (·.dst)) o env := by
  obtain ⟨d, op, ty, p, a, g⟩ := o
  cases g with
  | none => rfl
  | some jw =>
    obtain ⟨j, w⟩ := jw
    rw [want_guard]
    show wantT w env _ = wantT w env _
    congr 1
    unfold dstAt
    rw [List.getElem?_map]
    have : ops.toList[j]? = ops[j]? := by simp
    rw [this]
    cases ops[j]? <;> rfl
end Go.Idl

namespace Go.Idl
variable {P : Program} {good : FuncId → Bool} {nat : Nats} {G : Nat → Bool} {rd : Bool}

/-! ### Lists of integers in memory -/
theorem wrap_id {n : Int} (h0 : -9223372036854775808 ≤ n) (h1 : n ≤ 9223372036854775807) : IntKind.i64.wrap n = n := by
  have hb : IntKind.i64.bits = 64 := rfl
  have hs : IntKind.i64.signed = true := rfl
  unfold IntKind.wrap
  simp only [hb, hs, Bool.true_and]
  split
  · rename_i h; simp only [decide_eq_true_eq] at h; omega
  · rename_i h; simp only [decide_eq_true_eq] at h; omega
end Go.Idl
namespace Go.Idl
end Go.Idl
namespace Go.Idl
variable {P : Program}
/-! ### Operations that the model's own run does -/
end Go.Idl

namespace Go.Idl
end Go.Idl

namespace Go.Idl
variable {P : Program} {good : FuncId → Bool} {nat : Nats} {G : Nat → Bool} {rd : Bool}

end Go.Idl
namespace Go.Idl
variable {P : Program} {good : FuncId → Bool} {nat : Nats} {G : Nat → Bool} {rd : Bool}
end Go.Idl

namespace Go.Idl
end Go.Idl
namespace Go.Idl
end Go.Idl

namespace Go.Idl
variable {P : Program}

def AllRo (f : Inj) : Prop := ∀ b e, f b = some e → e.ro = true
theorem AllRo.add {f : Inj} {b : Nat} {e : Emb} (h : AllRo f) (he : e.ro = true) : AllRo (f.add b e) := by
  intro x y hx
  by_cases e1 : x = b
  · subst e1; rw [Inj.add_same] at hx; cases hx; exact he
  · rw [Inj.add_other e1] at hx; exact h x y hx

theorem Rel.addGhost {f : Inj} {H : IH} {w : World} (hR : Rel P f H w) (hro : AllRo f) (h0 : 0 < w.heap.size) : Rel P (f.add H.size ⟨0, 1, 0, true⟩) (H.push deadObj) w ∧ f.le (f.add H.size ⟨0, 1, 0, true⟩) := by
  have hnone : f H.size = none := addN_none hR
  have hle : f.le (f.add H.size ⟨0, 1, 0, true⟩) := Inj.le_add hnone
  have hro' : AllRo (f.add H.size ⟨0, 1, 0, true⟩) := hro.add rfl
  refine ⟨⟨?_, ?_, ?_, ?_, ?_, ?_⟩, hle⟩
  · intro b e hb
    by_cases e1 : b = H.size
    · subst e1; simp
    · rw [Inj.add_other e1] at hb; have := hR.dom b e hb; simp; omega
  · intro b hb
    simp only [IH.size_push] at hb
    rw [IH.get_push, if_neg (by omega)]
    exact hR.fresh b (by omega)
  · intro b e hb
    by_cases e1 : b = H.size
    · subst e1; rw [Inj.add_same] at hb; cases hb; exact h0
    · rw [Inj.add_other e1] at hb; exact hR.bound b e hb
  · intro b e o hb ho
    by_cases e1 : b = H.size
    · subst e1
      rw [IH.get_push, if_pos rfl] at ho; cases ho
      exact trivial
    · rw [Inj.add_other e1] at hb
      rw [IH.get_push, if_neg e1] at ho
      exact (hR.obj b e o hb ho).mono hle
  · intro b1 b2 e1 e2 o1 o2 _ h1 h2 _ _ _ _ _
    exact ⟨hro' b1 e1 h1, hro' b2 e2 h2⟩
  · intro b1 b2 e1 e2 h1 h2 _
    rw [hro' b1 e1 h1, hro' b2 e2 h2]

/-- a slice of integers in the world -/
def RInts (w : World) (A : Option Addr) (L C : Nat) (Z : List Int) : Prop :=
  (A = none ∧ L = 0 ∧ C = 0) ∨ ∃ a, A = some a ∧ L ≤ C ∧ Z.length = C ∧ ∀ i, i < C → w.cell? (a.add i) = some (.int .i64 (Z.getD i 0))

theorem cell_block {w : World} {a : Addr} {v : Value} (h : w.cell? a = some v) : a.spot = none ∧ ∃ c el fz, w.heap[a.block]? = some (.cells c el fz) ∧ c[a.off]? = some v := by
  unfold World.cell? at h
  split at h
  · rename_i c el fz hc
    split at h
    · cases h
    · rename_i hs
      exact ⟨by simpa using hs, c, el, fz, hc, h⟩
  · cases h
theorem cell_at {w : World} {a : Addr} {v : Value} {c : Array Value} {el : TypeId} {fz : Nat × Nat} {i : Nat} (hb : w.heap[a.block]? = some (.cells c el fz)) (hs : a.spot = none) (h : w.cell? (a.add i) = some v) : c[a.off + i]? = some v := by
  unfold Addr.add at h
  by_cases hi : i = 0
  · subst hi
    rw [if_pos rfl] at h
    unfold World.cell? at h
    rw [hb] at h
    simpa [hs] using h
  · rw [if_neg hi] at h
    unfold World.cell? at h
    simpa [hb] using h

/-- a window of a block that is only read -/
theorem addWin {f : Inj} {H : IH} {w : World} (hR : Rel P f H w) (hro : AllRo f) {a : Addr} {L C : Nat} (hLC : L ≤ C) (hC : 0 < C) (us : List Value) (hus : us.length = L) (V : Nat → Value) (hcell : ∀ i, i < C → w.cell? (a.add i) = some (V i))
    (hv : ∀ i u, us[i]? = some u → VRel P f u (V i)) : ∃ el, Rel P (f.add H.size ⟨a.block, a.off, (match w.heap[a.block]? with | some (.cells c _ _) => c.size | _ => 0), true⟩) (H.push (.cells us.toArray el (0, 1))) w ∧
      f.le (f.add H.size ⟨a.block, a.off, (match w.heap[a.block]? with | some (.cells c _ _) => c.size | _ => 0), true⟩) ∧ a.spot = none := by
  have h0 := hcell 0 hC
  have e0 : a.add 0 = a := by simp [Addr.add]
  rw [e0] at h0
  obtain ⟨hs, c, el, fz, hb, hc0⟩ := cell_block h0
  have hsize : a.off + us.toArray.size ≤ c.size := by
    simp only [List.size_toArray, hus]
    by_cases hL : L = 0
    · have := (Array.getElem?_eq_some_iff.1 hc0).1; omega
    · have := (Array.getElem?_eq_some_iff.1 (cell_at hb hs (hcell (L - 1) (by omega)))).1; omega
  have := hR.addRo (r := a.block) (s := a.off) hb (fun b e hbe _ => hro b e hbe) us.toArray el hsize fun i v hi => by
    have hi' : us[i]? = some v := by simpa using hi
    have hlt : i < L := by rw [← hus]; exact (List.getElem?_eq_some_iff.1 hi').1
    exact ⟨V i, cell_at hb hs (hcell i (by omega)), hv i v hi'⟩
  refine ⟨el, ?_, ?_, hs⟩
  · simp only [hb]; exact this.1
  · simp only [hb]; exact this.2

end Go.Idl
namespace Go.Idl
variable {P : Program}
end Go.Idl
