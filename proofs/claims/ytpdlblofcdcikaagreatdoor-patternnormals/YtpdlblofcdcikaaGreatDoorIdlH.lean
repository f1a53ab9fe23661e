/- Regions that draw their order. Conditions: none. -/
import Derived.Test.YtpdlblofcdcikaaGreatDoorIdlA
import Derived.Test.YtpdlblofcdcikaaGreatDoorIdlF
import Derived.OrdersIn
set_option linter.unusedSimpArgs false
set_option linter.unusedVariables false
namespace Go.Idl

def rowB (acc : Array Nat) (o : Oper) : Nat := o.after.foldl (fun s e => if Region.binds .any e then s ||| 2 ^ e.on ||| acc.getD e.on 0 else s) 0
def pushB (acc : Array Nat) (o : Oper) : Array Nat := acc.push (rowB acc o)

theorem before_eq (ops : Array Oper) : Region.before ops = ops.toList.foldl pushB #[] := by
  unfold Region.before pushB rowB
  rw [← Array.foldl_toList]

theorem row_list (acc : Array Nat) (i : Nat) : ∀ (l : List Edge) (s : Nat),
    (l.foldl (fun s e => if Region.binds .any e then s ||| 2 ^ e.on ||| acc.getD e.on 0 else s) s).testBit i = true ↔
      s.testBit i = true ∨ ∃ e ∈ l, Region.binds .any e = true ∧ (i = e.on ∨ (acc.getD e.on 0).testBit i = true)
  | [], s => by simp
  | e :: l, s => by
    rw [List.foldl_cons, row_list acc i l]
    by_cases hb : Region.binds .any e = true
    · rw [if_pos hb]
      simp only [Nat.testBit_or, Nat.testBit_two_pow, Bool.or_eq_true, decide_eq_true_eq, List.mem_cons]
      constructor
      · rintro (((h | h) | h) | ⟨e', h1, h2, h3⟩)
        · exact .inl h
        · exact .inr ⟨e, .inl rfl, hb, .inl h.symm⟩
        · exact .inr ⟨e, .inl rfl, hb, .inr h⟩
        · exact .inr ⟨e', .inr h1, h2, h3⟩
      · rintro (h | ⟨e', h1 | h1, h2, h3⟩)
        · exact .inl (.inl (.inl h))
        · subst h1
          rcases h3 with h3 | h3
          · exact .inl (.inl (.inr h3.symm))
          · exact .inl (.inr h3)
        · exact .inr ⟨e', h1, h2, h3⟩
    · rw [if_neg hb]
      simp only [List.mem_cons]
      constructor
      · rintro (h | ⟨e', h1, h2, h3⟩)
        · exact .inl h
        · exact .inr ⟨e', .inr h1, h2, h3⟩
      · rintro (h | ⟨e', h1 | h1, h2, h3⟩)
        · exact .inl h
        · subst h1; exact absurd h2 hb
        · exact .inr ⟨e', h1, h2, h3⟩

theorem row_iff (acc : Array Nat) (o : Oper) (i : Nat) : (rowB acc o).testBit i = true ↔ ∃ e ∈ o.after, Region.binds .any e = true ∧ (i = e.on ∨ (acc.getD e.on 0).testBit i = true) := by
  unfold rowB
  rw [← Array.foldl_toList, row_list]
  simp

theorem push_getD (acc : Array Nat) (o : Oper) (k : Nat) (h : k < acc.size) : (pushB acc o).getD k 0 = acc.getD k 0 := by
  unfold pushB
  simp only [Array.getD_eq_getD_getElem?, Array.getElem?_push]
  rw [if_neg (by omega)]
theorem push_getD_last (acc : Array Nat) (o : Oper) : (pushB acc o).getD acc.size 0 = rowB acc o := by
  unfold pushB
  simp [Array.getD_eq_getD_getElem?, Array.getElem?_push]
theorem pushB_size (acc : Array Nat) (o : Oper) : (pushB acc o).size = acc.size + 1 := by simp [pushB]

theorem fold_keep : ∀ (l : List Oper) (acc : Array Nat) (k : Nat), k < acc.size → (l.foldl pushB acc).getD k 0 = acc.getD k 0
  | [], _, _, _ => rfl
  | o :: l, acc, k, h => by
    rw [List.foldl_cons, fold_keep l _ _ (by rw [pushB_size]; omega), push_getD acc o k h]
theorem foldB_size : ∀ (l : List Oper) (acc : Array Nat), (l.foldl pushB acc).size = acc.size + l.length
  | [], _ => rfl
  | o :: l, acc => by rw [List.foldl_cons, foldB_size l, pushB_size, List.length_cons]; omega
theorem fold_at : ∀ (l : List Oper) (acc : Array Nat) (k : Nat) (o : Oper), l[k]? = some o → (l.foldl pushB acc).getD (acc.size + k) 0 = rowB ((l.take k).foldl pushB acc) o
  | [], _, _, _, h => by simp at h
  | p :: l, acc, 0, o, h => by
    simp only [List.getElem?_cons_zero, Option.some.injEq] at h
    subst h
    rw [List.foldl_cons, fold_keep l _ _ (by rw [pushB_size]; omega), Nat.add_zero, push_getD_last]
    rfl
  | p :: l, acc, k + 1, o, h => by
    have := fold_at l (pushB acc p) k o (by simpa using h)
    rw [pushB_size] at this
    rw [List.foldl_cons, List.take_succ_cons, List.foldl_cons, show acc.size + (k + 1) = acc.size + 1 + k by omega]
    exact this

/-- what comes before an operation: what an edge leads to, and what comes before that -/
theorem bef_iff {ops : Array Oper} (hb : ∀ j o, ops[j]? = some o → ∀ e ∈ o.after, Region.binds .any e = true → e.on < j) {i j : Nat} {o : Oper} (ho : ops[j]? = some o) :
    befB (Region.before ops) i j = true ↔ ∃ e ∈ o.after, Region.binds .any e = true ∧ (i = e.on ∨ befB (Region.before ops) i e.on = true) := by
  have ho' : ops.toList[j]? = some o := by simpa using ho
  have hlen : j < ops.toList.length := (List.getElem?_eq_some_iff.1 ho').1
  have h1 : (Region.before ops).getD j 0 = rowB ((ops.toList.take j).foldl pushB #[]) o := by
    have := fold_at ops.toList #[] j o ho'
    rw [before_eq]
    simpa using this
  have h2 : ∀ k, k < j → ((ops.toList.take j).foldl pushB #[]).getD k 0 = (Region.before ops).getD k 0 := by
    intro k hk
    have e1 : ops.toList = ops.toList.take j ++ ops.toList.drop j := (List.take_append_drop j _).symm
    rw [before_eq]
    conv => rhs; rw [e1, List.foldl_append]
    refine (fold_keep _ _ _ ?_).symm
    rw [foldB_size]
    simp only [List.length_take]
    have : (#[] : Array Nat).size = 0 := rfl
    omega
  unfold befB
  rw [h1, row_iff]
  constructor
  · rintro ⟨e, he, hbd, h3⟩
    refine ⟨e, he, hbd, ?_⟩
    rw [h2 _ (hb j o ho e he hbd)] at h3
    exact h3
  · rintro ⟨e, he, hbd, h3⟩
    refine ⟨e, he, hbd, ?_⟩
    rw [h2 _ (hb j o ho e he hbd)]
    exact h3

theorem bef_none {ops : Array Oper} {i j : Nat} (ho : ops[j]? = none) : befB (Region.before ops) i j = false := by
  unfold befB
  have : (Region.before ops)[j]? = none := by
    rw [before_eq, Array.getElem?_eq_none]
    rw [foldB_size]
    have := Array.getElem?_eq_none_iff.1 ho
    simpa using this
  simp [Array.getD_eq_getD_getElem?, this]

theorem bef_lt {ops : Array Oper} (hb : ∀ j o, ops[j]? = some o → ∀ e ∈ o.after, Region.binds .any e = true → e.on < j) : ∀ (j i : Nat), befB (Region.before ops) i j = true → i < j := by
  intro j
  induction j using Nat.strongRecOn with
  | _ j ih =>
    intro i h
    cases ho : ops[j]? with
    | none => rw [bef_none ho] at h; cases h
    | some o =>
      obtain ⟨e, he, hbd, h3⟩ := (bef_iff hb ho).1 h
      have hlt := hb j o ho e he hbd
      rcases h3 with h3 | h3
      · omega
      · have := ih e.on hlt i h3; omega

end Go.Idl

namespace Go.Idl
variable {P : Program}

theorem idry_congr {o : Oper} {env env' : Env} {H : IH} (hs : ∀ cs b, o.op ≠ .select cs b) (h : ∀ x ∈ o.op.operands, env.val x = env'.val x) : idry P o env H = idry P o env' H := by
  unfold idry
  rw [execOp_congr o hs h, mapR_eq, mapR_eq, List.map_congr_left (g := env'.val) fun x hx => h x (Array.mem_def.2 hx)]

theorem iop_congr {o : Oper} {env env' : Env} {H : IH} (h : ∀ x ∈ o.op.operands, env.val x = env'.val x) : iop P o env H = iop P o env' H := by
  have hd : (∀ cs b, o.op ≠ .select cs b) → idry P o env H = idry P o env' H := fun hs => idry_congr hs h
  have pairs : ∀ ps : Array (Nat × Operand), (∀ x ∈ ps.map (·.2), env.val x = env'.val x) →
      (ps.toList.map fun p => (p.1, env.val p.2)) = (ps.toList.map fun p => (p.1, env'.val p.2)) := fun ps hp =>
    List.map_congr_left fun p hm => by
      rw [hp p.2 (Array.mem_map.2 ⟨p, Array.mem_def.2 hm, rfl⟩)]
  unfold iop
  cases ho : o.op <;> rw [ho] at h hd <;> simp only [Op.operands] at h <;> simp only
  case build t ps => rw [pairs ps fun x hx => h x (by simpa using hx)]
  case buildSlice t n ps => rw [pairs ps fun x hx => h x (by simpa using hx)]
  case makeFunc fn first captured =>
    rw [Array.map_congr_left (xs := first) fun x hx => h x (by simp [hx]), Array.map_congr_left (xs := captured) fun x hx => h x (by simp [hx])]
  case binOp op t x y t2 =>
    have hd := hd (by simp)
    rw [h x (by simp), h y (by simp)]
    simp only [ibinOp, intBin2, nilBin, hd]
  case unOp => exact hd (by simp)
  case convert src dst x =>
    have hd := hd (by simp)
    rw [h x (by simp)]
    simp only [iconvert, hd]
  case slice t x lo hi mx =>
    have hd := hd (by simp)
    have e1 : lo.map env.val = lo.map env'.val := by cases lo <;> simp_all
    have e2 : hi.map env.val = hi.map env'.val := by cases hi <;> simp_all
    have e3 : mx.map env.val = mx.map env'.val := by cases mx <;> simp_all
    rw [e1, e2, e3, h x (by simp)]
    simp only [isliceOp, hd]
  case index t x ix =>
    have hd := hd (by simp)
    rw [h x (by simp), h ix (by simp)]
    simp only [iindexOp, hd]
  case call c =>
    have hd := hd (by simp)
    simp only [Call.operands] at h
    have ha : mapR env.val c.args.toList = mapR env'.val c.args.toList := by
      rw [mapR_eq, mapR_eq]
      exact List.map_congr_left fun x hx => h x (by cases c.callee <;> simp [Array.mem_def, hx])
    have hc : icall P c env H = icall P c env' H := by
      unfold icall
      simp only [ha]
      split
      · rfl
      · rfl
      · rename_i f hf
        rw [hf] at h
        rw [h f (by simp)]
    simp only [icallOp, hd, hc]
  all_goals (first | rfl | (simp_all; done))

/-- what does not look at the heap -/
def Loose (s : IH → Option Step1) : Prop := ∀ H r, s H = some r → ∃ v, r = .val v H ∧ ∀ H', s H' = some (.val v H')
theorem Loose.ofO (v : Option Value) : Loose fun H => Step1.ofO H v := by
  intro H r h
  cases v with
  | none => cases h
  | some v => cases h; exact ⟨v, rfl, fun _ => rfl⟩
theorem Loose.dry (o : Oper) (env : Env) : Loose fun H => idry P o env H := by
  intro H r h
  simp only [idry] at h ⊢
  by_cases hp : plainL (mapR env.val o.op.operands.toList) = true
  · rw [if_pos hp] at h
    simp only [hp, if_true]
    cases hs : sdry P (execOp env.val o) with
    | none => rw [hs] at h; cases h
    | some x =>
      rw [hs] at h
      cases x with
      | value v =>
        simp only [dryNext, dryVal] at h ⊢
        cases hd : dryOk v with
        | false => rw [hd] at h; cases h
        | true => rw [hd] at h; cases h; exact ⟨v, rfl, fun _ => rfl⟩
      | _ => cases h
  · rw [if_neg hp] at h; cases h
theorem Loose.val (v : Value) : Loose fun H => some (.val v H) := by
  intro H r h; cases h; exact ⟨v, rfl, fun _ => rfl⟩
theorem Loose.none : Loose fun _ => none := by intro H r h; cases h

theorem Loose.cond {b : Bool} {s t : IH → Option Step1} (hs : Loose s) (ht : Loose t) : Loose fun H => cond b (s H) (t H) := by
  cases b
  · exact ht
  · exact hs
theorem Loose.intBin2 (o : Oper) (op : BinOp) (k k' : IntKind) (a b : Int) (env : Env) : Loose fun H => intBin2 P o op k k' a b env H := by
  unfold Go.Idl.intBin2
  refine .cond ?_ (.dry _ _)
  split
  · exact .val _
  · exact .dry _ _
theorem Loose.nilBin (o : Oper) (op : BinOp) (t : TypeId) (x y : Value) (env : Env) : Loose fun H => nilBin P o op t x y env H := by
  unfold Go.Idl.nilBin
  split
  · split
    · exact .val _
    · exact .dry _ _
  · split
    · exact .val _
    · exact .dry _ _
  · exact .dry _ _
theorem Loose.binOp (o : Oper) (op : BinOp) (t : TypeId) (x y : Value) (env : Env) : Loose fun H => ibinOp P o op t x y env H := by
  unfold ibinOp
  split
  · split
    · exact .intBin2 _ _ _ _ _ _ _
    · exact .nilBin _ _ _ _ _ _
  · exact .nilBin _ _ _ _ _ _
theorem Loose.orElse {s t : IH → Option Step1} (hs : Loose s) (hn : ∀ H H', s H = Option.none → s H' = Option.none) (ht : Loose t) : Loose fun H => match s H with
    | some r => some r
    | .none => t H := by
  intro H r h
  simp only at h ⊢
  cases hsH : s H with
  | none =>
    rw [hsH] at h
    obtain ⟨v, h1, h2⟩ := ht H r h
    exact ⟨v, h1, fun H' => by rw [hn H H' hsH]; exact h2 H'⟩
  | some q =>
    rw [hsH] at h
    cases h
    obtain ⟨v, h1, h2⟩ := hs H r hsH
    exact ⟨v, h1, fun H' => by rw [h2 H']⟩

theorem pure_loose {o : Oper} {env : Env} (hc : clsOf o = .pure) : Loose fun H => iop P o env H := by
  unfold iop
  unfold clsOf at hc
  cases ho : o.op <;> rw [ho] at hc <;> simp only at hc <;> (try cases hc) <;> simp only
  case move => exact .val _
  case assign => exact .val _
  case pick => unfold ipick; split; exact .val _; exact .none
  case build => exact .ofO _
  case nilCheck => unfold inilCheck; split; exact .val _; exact .val _; exact .val _; exact .none
  case binOp => exact .binOp _ _ _ _ _ _
  case unOp => exact .dry _ _
  case makeFunc => unfold imakeFunc; split; exact .val _; exact .none
  case slice => unfold isliceOp; split; exact .dry _ _; exact .ofO _
  case fieldAddr => exact .ofO _
  case field => exact .ofO _
  case indexAddr => exact .ofO _
  case index => unfold iindexOp; split; exact .dry _ _; exact .ofO _
  case extract =>
    unfold iextract; split
    · unfold iextract2
      split
      · exact .cond (.val _) .none
      · exact .none
    · exact .none
  case alloc => split at hc <;> cases hc
  case call c =>
    unfold icallOp
    refine .orElse (s := fun H => icall P c env H) ?_ ?_ (.dry _ _)
    · unfold icall
      split at hc <;> (try cases hc)
      · rename_i h; simp only [h, ibuiltin]; exact .none
      · rename_i h; simp only [h, ibuiltin]; exact .none
      · rename_i h; simp only [h, ibuiltin]
        split
        · exact .val _
        · split
          · exact .val _
          · exact .none
        · exact .none
    · intro H H' hn
      unfold icall at hn ⊢
      split at hc <;> (try cases hc)
      · rename_i h; simp only [h, ibuiltin]
      · rename_i h; simp only [h, ibuiltin]
      · rename_i h; simp only [h, ibuiltin] at hn ⊢
        split at hn
        · cases hn
        · split at hn
          · cases hn
          · rename_i hc0; simp only [hc0]; rfl
        · rfl

/-- what leaves the heap as it is -/
theorem ofO_keep {H : IH} {v : Option Value} {r : Step1} (h : Step1.ofO H v = some r) : ∃ u, r = .val u H := by
  cases v with
  | none => cases h
  | some u => cases h; exact ⟨u, rfl⟩

theorem read_keep {o : Oper} {env : Env} {H : IH} {r : Step1} (hc : clsOf o = .read) (h : iop P o env H = some r) : ∃ v, r = .val v H := by
  unfold iop at h
  unfold clsOf at hc
  have dry : ∀ {r}, idry P o env H = some r → ∃ v, r = .val v H := fun h => by
    obtain ⟨v, h1, _⟩ := Loose.dry o env H _ h
    exact ⟨v, h1⟩
  cases ho : o.op <;> rw [ho] at hc h <;> simp only at hc h <;> (try cases hc)
  case load => exact ofO_keep h
  case lookup => exact ofO_keep h
  case entry => exact ofO_keep h
  case convert =>
    unfold iconvert at h
    split at h
    · exact ofO_keep h
    · exact dry h
  case alloc => split at hc <;> cases hc
  case call c =>
    unfold icallOp at h
    split at h
    · rename_i q hq
      cases h
      unfold icall at hq
      split at hc <;> (try cases hc)
      rename_i hb
      simp only [hb, ibuiltin, ilenB] at hq
      split at hq
      · cases hq; exact ⟨_, rfl⟩
      · split at hq
        · cases hq; exact ⟨_, rfl⟩
        · cases hq
      · cases hq; exact ⟨_, rfl⟩
      · cases hq
    · exact dry h
  all_goals (split at h <;> exact absurd h (by simp))

/-- new variables -/
theorem alloc_inv {o : Oper} (h : isAlloc o = true) : ∃ elem, o.op = .alloc elem ∧ o.guard = none := by
  unfold isAlloc at h
  have hc := of_decide_eq_true h
  unfold clsOf at hc
  split at hc <;> (try cases hc)
  · rename_i elem he
    refine ⟨elem, he, ?_⟩
    split at hc
    · rename_i hg; simpa using hg
    · cases hc
  · split at hc <;> cases hc
end Go.Idl

namespace Go.Idl
variable {P : Program} {nat : Nats}

noncomputable def Env.at (env : Env) (t : Nat) : Value := (nthR env t).getD undef

theorem at_putD (env : Env) (d : Option Tmp) (v : Value) (t : Nat) : (env.putD d v).at t = if d = some t ∧ t < env.length then v else env.at t := by
  cases d with
  | none => simp [Env.putD]
  | some d =>
    simp only [Env.putD, Env.at, nthR_eq, setR_eq, List.getElem?_set, Option.some.injEq]
    by_cases h : d = t
    · subst h
      by_cases hl : d < env.length
      · simp [hl]
      · simp [hl, List.getElem?_eq_none (Nat.le_of_not_lt hl)]
    · simp [h]
theorem length_putD (env : Env) (d : Option Tmp) (v : Value) : (env.putD d v).length = env.length := by
  cases d with
  | none => rfl
  | some d => simp [Env.putD, setR_eq]
theorem at_putD_ne {env : Env} {d : Option Tmp} {v : Value} {t : Nat} (h : d ≠ some t) : (env.putD d v).at t = env.at t := by
  rw [at_putD, if_neg (fun hh => h hh.1)]
theorem at_putD_eq {env : Env} {v : Value} {t : Nat} (h : t < env.length) : (env.putD (some t) v).at t = v := by
  rw [at_putD, if_pos ⟨rfl, h⟩]
theorem nthR_at {env env' : Env} (hl : env.length = env'.length) {t : Nat} (h : env.at t = env'.at t) : nthR env t = nthR env' t := by
  simp only [Env.at, nthR_eq] at h ⊢
  by_cases ht : t < env.length
  · have ht' : t < env'.length := by omega
    rw [List.getElem?_eq_getElem ht, List.getElem?_eq_getElem ht'] at h ⊢
    simpa using h
  · rw [List.getElem?_eq_none (by omega), List.getElem?_eq_none (by omega)]

def isEff (o : Oper) : Bool := (clsOf o).eff
def cntE (l : List Oper) : Nat := l.countP isEff
def cntA (l : List Oper) : Nat := l.countP isAlloc
theorem alloc_not_eff {o : Oper} (h : isAlloc o = true) : isEff o = false := by
  unfold isAlloc at h
  unfold isEff
  rw [of_decide_eq_true h]; rfl
theorem not_eff {o : Oper} (h : isEff o = false) (ha : isAlloc o = false) : clsOf o = .pure ∨ clsOf o = .read := by
  unfold isEff at h
  unfold isAlloc at ha
  cases hc : clsOf o <;> rw [hc] at h ha <;> first | exact .inl rfl | exact .inr rfl | (cases h; done) | (exact absurd ha (by decide))

theorem cntE_cons (o : Oper) (l : List Oper) : cntE (o :: l) = (if isEff o then 1 else 0) + cntE l := by
  unfold cntE; rw [List.countP_cons]; omega
theorem cntA_cons (o : Oper) (l : List Oper) : cntA (o :: l) = (if isAlloc o then 1 else 0) + cntA l := by
  unfold cntA; rw [List.countP_cons]; omega

theorem iop1_calm {run : Job → IH → T Out} {o : Oper} {env : Env} {H : IH} {r : Value × IH} (he : isEff o = false) (ha : isAlloc o = false) (h : iop1 P run nat o env H = .ret r) : r.2 = H ∧ iop P o env H = some (.val r.1 H) := by
  unfold iop1 at h
  have key : ∀ s, iop P o env H = some s → ∃ v, s = .val v H := by
    intro s hs
    rcases not_eff he ha with hc | hc
    · obtain ⟨v, h1, _⟩ := pure_loose hc H s hs; exact ⟨v, h1⟩
    · exact read_keep hc hs
  cases hs : iop P o env H with
  | none => rw [hs] at h; cases h
  | some s =>
    obtain ⟨v, rfl⟩ := key s hs
    rw [hs] at h
    cases h
    exact ⟨rfl, rfl⟩
theorem iop1_val {run : Job → IH → T Out} {o : Oper} {env : Env} {H H' : IH} {v : Value} (h : iop P o env H = some (.val v H')) : iop1 P run nat o env H = .ret (v, H') := by
  unfold iop1; rw [h]; rfl

theorem out1_some {t : T (Value × IH)} {r : Value × IH} (h : Out1 t = some r) : t = .ret r := by
  unfold Out1 at h
  split at h
  · cases h; rfl
  · cases h

/-- how one operation came out -/
structure At (P : Program) (run : Job → IH → T Out) (nat : Nats) (ops : Array Oper) (lo : List (Nat × Nat × Nat)) (i : Nat) (o : Oper) (env : Env) (H : IH) (eF : Env) (next : Option IH) (rs : List Rec) (later : Nat → Prop) : Prop where
  out : (iwanted ops o env = some false ∧ (∀ d, o.dst = some d → d < env.length → ¬ later d → eF.at d = undef) ∧ (isEff o = true → next = some H)) ∨
    (iwanted ops o env = some true ∧ ∃ v H', iop1 P run nat o env H = .ret (v, H') ∧ (∀ d, o.dst = some d → d < env.length → ¬ later d → eF.at d = v) ∧ (isEff o = true → next = some H') ∧ (isEff o = false → H' = H) ∧
      (∀ p, findL i lo = some p → (⟨i, o, env, v⟩ : Rec) ∈ rs))

def writes (l : List Oper) (lo : Nat → Prop) (t : Nat) : Prop := ∃ k o, lo k ∧ l[k]? = some o ∧ isAlloc o = false ∧ o.dst = some t

theorem writes_cons {o : Oper} {l : List Oper} {q : Nat → Prop} {t : Nat} : writes (o :: l) q t ↔ (q 0 ∧ isAlloc o = false ∧ o.dst = some t) ∨ writes l (fun k => q (k + 1)) t := by
  constructor
  · rintro ⟨k, p, h1, h2, h3, h4⟩
    cases k with
    | zero => simp only [List.getElem?_cons_zero, Option.some.injEq] at h2; subst h2; exact .inl ⟨h1, h3, h4⟩
    | succ k => exact .inr ⟨k, p, h1, by simpa using h2, h3, h4⟩
  · rintro (⟨h1, h3, h4⟩ | ⟨k, p, h1, h2, h3, h4⟩)
    · exact ⟨0, o, h1, rfl, h3, h4⟩
    · exact ⟨k + 1, p, h1, by simpa using h2, h3, h4⟩

structure Trace (P : Program) (run : Job → IH → T Out) (nat : Nats) (ops : Array Oper) (lo : List (Nat × Nat × Nat)) (l : List Oper) (i : Nat) (env : Env) (H : IH) (eF : Env) (HF : IH) (hs : List IH) (rs : List Rec) : Prop where
  len : eF.length = env.length
  last : (H :: hs)[cntE l]? = some HF
  keep : ∀ t, ¬ writes l (fun _ => True) t → eF.at t = env.at t
  step : ∀ k o, l[k]? = some o → isAlloc o = false → ∃ envk Hk, envk.length = env.length ∧ (∀ t, ¬ writes l (fun k' => k' < k) t → envk.at t = env.at t) ∧ (∀ t, ¬ writes l (fun k' => k ≤ k') t → eF.at t = envk.at t) ∧
    (H :: hs)[cntE (l.take k)]? = some Hk ∧ At P run nat ops lo (i + k) o envk Hk eF ((H :: hs)[cntE (l.take k) + 1]?) rs (writes l fun k' => k < k')

theorem iopsD_trace {run : Job → IH → T Out} {ops : Array Oper} {lo : List (Nat × Nat × Nat)} : ∀ (l : List Oper) (i : Nat) (env : Env) (H : IH) (eF : Env) (HF : IH) (hs : List IH) (rs : List Rec),
    iopsD P run nat ops lo l i env H = some (eF, HF, hs, rs) → Trace P run nat ops lo l i env H eF HF hs rs
  | [], i, env, H, eF, HF, hs, rs, h => by
    have h' : some (env, H, [], []) = some (eF, HF, hs, rs) := h
    cases h'
    exact ⟨rfl, rfl, fun _ _ => rfl, fun k o hk => by simp at hk⟩
  | o :: l, i, env, H, eF, HF, hs, rs, h => by
    rw [iopsD_cons] at h
    -- what the rest says, said of the whole
    have lift : ∀ (env1 : Env) (H1 : IH) (hs1 : List IH) (rs1 : List Rec) (v : Value), Trace P run nat ops lo l (i + 1) env1 H1 eF HF hs1 rs1 → env1 = (if isAlloc o = true then env else env.putD o.dst v) →
        (∀ r, r ∈ rs1 → r ∈ rs) → (∀ n, (H :: hs)[(if isEff o then 1 else 0) + n]? = (H1 :: hs1)[n]?) →
        (isAlloc o = false → At P run nat ops lo i o env H eF ((H :: hs)[1]?) rs (writes l fun _ => True)) → Trace P run nat ops lo (o :: l) i env H eF HF hs rs := by
      intro env1 H1 hs1 rs1 v ht he hrs hh hat
      have hlen : env1.length = env.length := by rw [he]; split; rfl; exact length_putD _ _ _
      have hat1 : ∀ t, ¬ (isAlloc o = false ∧ o.dst = some t) → env1.at t = env.at t := by
        intro t hn
        rw [he]
        split
        · rfl
        · rename_i ha
          exact at_putD_ne fun hd => hn ⟨by simpa using ha, hd⟩
      refine ⟨by rw [ht.len, hlen], by rw [cntE_cons, hh]; exact ht.last, ?_, ?_⟩
      · intro t hw
        rw [writes_cons] at hw
        rw [ht.keep t (fun hw' => hw (.inr hw')), hat1 t (fun hw' => hw (.inl ⟨trivial, hw'⟩))]
      · intro k p hk hp
        cases k with
        | zero =>
          simp only [List.getElem?_cons_zero, Option.some.injEq] at hk
          subst hk
          refine ⟨env, H, rfl, fun _ _ => rfl, ?_, rfl, ?_⟩
          · intro t hw
            rw [writes_cons] at hw
            rw [ht.keep t (fun hw' => hw (.inr ?_)), hat1 t (fun hw' => hw (.inl ⟨Nat.le_refl _, hw'⟩))]
            obtain ⟨k, p, _, h2, h3, h4⟩ := hw'
            exact ⟨k, p, Nat.zero_le _, h2, h3, h4⟩
          · have hq : ∀ d, ¬ writes (o :: l) (fun k' => 0 < k') d → ¬ writes l (fun _ => True) d := by
              intro d hn hw
              refine hn (writes_cons.2 (.inr ?_))
              obtain ⟨k, p, _, h2, h3, h4⟩ := hw
              exact ⟨k, p, Nat.succ_pos _, h2, h3, h4⟩
            rcases (hat hp).out with ⟨a1, a2, a3⟩ | ⟨a1, v', H', a2, a3, a4, a5, a6⟩
            · exact ⟨.inl ⟨a1, fun d hd hl hn => a2 d hd hl (hq d hn), a3⟩⟩
            · exact ⟨.inr ⟨a1, v', H', a2, fun d hd hl hn => a3 d hd hl (hq d hn), a4, a5, a6⟩⟩
        | succ k =>
          obtain ⟨envk, Hk, b1, b2, b3, b4, b5⟩ := ht.step k p (by simpa using hk) hp
          have hcnt : cntE ((o :: l).take (k + 1)) = (if isEff o then 1 else 0) + cntE (l.take k) := by rw [List.take_succ_cons, cntE_cons]
          refine ⟨envk, Hk, by rw [b1, hlen], ?_, ?_, by rw [hcnt, hh]; exact b4, ?_⟩
          · intro t hw
            rw [writes_cons] at hw
            rw [b2 t (fun hw' => hw (.inr ?_)), hat1 t (fun hw' => hw (.inl ⟨Nat.succ_pos _, hw'⟩))]
            obtain ⟨k', p', h1, h2, h3, h4⟩ := hw'
            exact ⟨k', p', Nat.succ_lt_succ h1, h2, h3, h4⟩
          · intro t hw
            refine b3 t fun hw' => hw (writes_cons.2 (.inr ?_))
            obtain ⟨k', p', h1, h2, h3, h4⟩ := hw'
            exact ⟨k', p', Nat.succ_le_succ h1, h2, h3, h4⟩
          · have hq : ∀ d, ¬ writes (o :: l) (fun k' => k + 1 < k') d → ¬ writes l (fun k' => k < k') d := by
              intro d hn hw
              refine hn (writes_cons.2 (.inr ?_))
              obtain ⟨k', p', h1, h2, h3, h4⟩ := hw
              exact ⟨k', p', Nat.succ_lt_succ h1, h2, h3, h4⟩
            have hn1 : (H :: hs)[cntE ((o :: l).take (k + 1)) + 1]? = (H1 :: hs1)[cntE (l.take k) + 1]? := by rw [hcnt, Nat.add_assoc, hh]
            have hi : i + (k + 1) = i + 1 + k := by omega
            rw [hn1, hi]
            rcases b5.out with ⟨a1, a2, a3⟩ | ⟨a1, v', H', a2, a3, a4, a5, a6⟩
            · exact ⟨.inl ⟨a1, fun d hd hl hn => a2 d hd hl (hq d hn), a3⟩⟩
            · exact ⟨.inr ⟨a1, v', H', a2, fun d hd hl hn => a3 d hd hl (hq d hn), a4, a5, fun p hp => hrs _ (a6 p hp)⟩⟩
    cases ha : isAlloc o with
    | true =>
      rw [ha] at h
      have hne : isEff o = false := alloc_not_eff ha
      exact lift env H hs rs undef (iopsD_trace l _ _ _ _ _ _ _ h) (by rw [ha]; rfl) (fun _ h => h) (fun n => by rw [hne]; simp) (fun h0 => by rw [ha] at h0; cases h0)
    | false =>
      rw [ha] at h
      simp only [cond_false] at h
      unfold byWant at h
      split at h
      · rename_i hw
        cases ho : Out1 (iop1 P run nat o env H) with
        | none => rw [ho] at h; cases h
        | some q =>
          rw [ho] at h
          simp only [thenD, consD] at h
          split at h
          · rename_i e hh hs1 rs1 hq
            have hio := out1_some ho
            have ht := iopsD_trace l _ _ _ _ _ _ _ hq
            cases h
            have hvl : ∀ d, o.dst = some d → d < env.length → ¬ writes l (fun _ => True) d → eF.at d = q.1 := by
              intro d hd hl hn
              rw [ht.keep d hn, hd]
              exact at_putD_eq hl
            have hrec : ∀ p, findL i lo = some p → (⟨i, o, env, q.1⟩ : Rec) ∈ recIf (findL i lo) i o env q.1 rs1 := by
              intro p hp; rw [hp]; exact List.mem_cons_self
            have hin : ∀ r, r ∈ rs1 → r ∈ recIf (findL i lo) i o env q.1 rs1 := by
              intro r hr; unfold recIf; split; exact List.mem_cons_of_mem _ hr; exact hr
            cases hE : isEff o with
            | true =>
              have hE' : (clsOf o).eff = true := hE
              refine lift _ q.2 hs1 rs1 q.1 ht (by rw [ha]; rfl) hin (fun n => by rw [hE']; simp only [hE, consIf, cond_true, if_true]; rw [Nat.add_comm, List.getElem?_cons_succ]) fun _ => ?_
              exact ⟨.inr ⟨hw, q.1, q.2, hio, hvl, fun _ => by rw [hE']; rfl, fun h0 => (by rw [hE] at h0; cases h0), hrec⟩⟩
            | false =>
              have hE' : (clsOf o).eff = false := hE
              obtain ⟨g1, g2⟩ := iop1_calm hE ha hio
              refine lift _ q.2 hs1 rs1 q.1 ht (by rw [ha]; rfl) hin (fun n => by rw [hE']; simp [hE, consIf, g1]) fun _ => ?_
              exact ⟨.inr ⟨hw, q.1, q.2, hio, hvl, fun h0 => (by rw [hE] at h0; cases h0), fun _ => g1, hrec⟩⟩
          · cases h
      · rename_i hw
        simp only [consS] at h
        split at h
        · rename_i e hh hs1 rs1 hq
          have ht := iopsD_trace l _ _ _ _ _ _ _ hq
          cases h
          have hvl : ∀ d, o.dst = some d → d < env.length → ¬ writes l (fun _ => True) d → eF.at d = undef := by
            intro d hd hl hn
            rw [ht.keep d hn, hd]
            exact at_putD_eq hl
          cases hE : isEff o with
          | true =>
            have hE' : (clsOf o).eff = true := hE
            refine lift _ H hs1 rs undef ht (by rw [ha]; rfl) (fun _ h => h) (fun n => by rw [hE']; simp only [hE, consIf, cond_true, if_true]; rw [Nat.add_comm, List.getElem?_cons_succ]) fun _ => ?_
            exact ⟨.inl ⟨hw, hvl, fun _ => by rw [hE']; rfl⟩⟩
          | false =>
            have hE' : (clsOf o).eff = false := hE
            refine lift _ H hs1 rs undef ht (by rw [ha]; rfl) (fun _ h => h) (fun n => by rw [hE']; simp [hE, consIf]) fun _ => ?_
            exact ⟨.inl ⟨hw, hvl, fun h0 => (by rw [hE] at h0; cases h0)⟩⟩
        · cases h
      · cases h

end Go.Idl

namespace Go.Idl
variable {P : Program} {nat : Nats}

/-! ### The new variables -/
def writesA (l : List Oper) (lo : Nat → Prop) (t : Nat) : Prop := ∃ k o, lo k ∧ l[k]? = some o ∧ isAlloc o = true ∧ o.dst = some t
theorem writesA_cons {o : Oper} {l : List Oper} {q : Nat → Prop} {t : Nat} : writesA (o :: l) q t ↔ (q 0 ∧ isAlloc o = true ∧ o.dst = some t) ∨ writesA l (fun k => q (k + 1)) t := by
  constructor
  · rintro ⟨k, p, h1, h2, h3, h4⟩
    cases k with
    | zero => simp only [List.getElem?_cons_zero, Option.some.injEq] at h2; subst h2; exact .inl ⟨h1, h3, h4⟩
    | succ k => exact .inr ⟨k, p, h1, by simpa using h2, h3, h4⟩
  · rintro (⟨h1, h3, h4⟩ | ⟨k, p, h1, h2, h3, h4⟩)
    · exact ⟨0, o, h1, rfl, h3, h4⟩
    · exact ⟨k + 1, p, h1, by simpa using h2, h3, h4⟩

theorem Rel.pushUn {f : Inj} {H : IH} {w : World} (o : Obj) (h : Rel P f H w) : Rel P f (H.push o) w := by
  have hne : ∀ b e, f b = some e → b ≠ H.size := fun b e hb => by have := h.dom b e hb; omega
  refine ⟨fun b e hb => by have := h.dom b e hb; simp; omega, fun b hb => ?_, h.bound, fun b e ob hb hob => ?_, fun b1 b2 e1 e2 o1 o2 hn h1 h2 g1 g2 => ?_, h.rosame⟩
  · simp only [IH.size_push] at hb
    rw [IH.get_push, if_neg (by omega)]
    exact h.fresh b (by omega)
  · rw [IH.get_push, if_neg (hne b e hb)] at hob
    exact h.obj b e ob hb hob
  · rw [IH.get_push, if_neg (hne b1 e1 h1)] at g1
    rw [IH.get_push, if_neg (hne b2 e2 h2)] at g2
    exact h.sep b1 b2 e1 e2 o1 o2 hn h1 h2 g1 g2

structure TraceA (P : Program) (l : List Oper) (env : Env) (H : IH) (e1 : Env) (H1 : IH) : Prop where
  len : e1.length = env.length
  size : H1.size = H.size + cntA l
  old : ∀ b, b < H.size → H1.get b = H.get b
  rel : ∀ f w, Rel P f H w → Rel P f H1 w
  keep : ∀ t, ¬ writesA l (fun _ => True) t → e1.at t = env.at t
  step : ∀ k o, l[k]? = some o → isAlloc o = true → ∃ elem z, o.op = .alloc elem ∧ zeroP P elem = some z ∧ H1.get (H.size + cntA (l.take k)) = some (.cells z.cells elem) ∧
    ∀ d, o.dst = some d → d < env.length → ¬ writesA l (fun k' => k < k') d → e1.at d = .pointer (some ⟨H.size + cntA (l.take k), 0, none⟩)

theorem iopsA_trace : ∀ (l : List Oper) (env : Env) (H : IH) (e1 : Env) (H1 : IH), iopsA P l env H = some (e1, H1) → TraceA P l env H e1 H1
  | [], env, H, e1, H1, h => by
    simp only [iopsA, Option.some.injEq, Prod.mk.injEq] at h
    obtain ⟨rfl, rfl⟩ := h
    exact ⟨rfl, rfl, fun _ _ => rfl, fun _ _ h => h, fun _ _ => rfl, fun k o hk => by simp at hk⟩
  | o :: l, env, H, e1, H1, h => by
    unfold iopsA at h
    split at h
    · rename_i ha
      split at h
      · rename_i v H' hv
        obtain ⟨elem, he, _⟩ := alloc_inv ha
        unfold iop at hv
        rw [he] at hv
        simp only [ialloc] at hv
        split at hv
        · rename_i z hz
          cases hv
          have t := iopsA_trace l _ _ _ _ h
          have hc : ∀ k, cntA ((o :: l).take (k + 1)) = 1 + cntA (l.take k) := fun k => by rw [List.take_succ_cons, cntA_cons, if_pos ha]
          refine ⟨by rw [t.len, length_putD], by rw [t.size, cntA_cons, if_pos ha, IH.size_push]; omega, ?_, fun f w hR => t.rel f w (hR.pushUn _), ?_, ?_⟩
          · intro b hb
            rw [t.old b (by simp; omega), IH.get_push, if_neg (by omega)]
          · intro x hw
            rw [writesA_cons] at hw
            rw [t.keep x fun hw' => hw (.inr hw')]
            exact at_putD_ne fun hd => hw (.inl ⟨trivial, ha, hd⟩)
          · intro k p hk hp
            cases k with
            | zero =>
              simp only [List.getElem?_cons_zero, Option.some.injEq] at hk
              subst hk
              refine ⟨elem, z, he, hz, ?_, ?_⟩
              · simp only [List.take_zero, cntA, List.countP_nil, Nat.add_zero]
                rw [t.old H.size (by simp), IH.get_push, if_pos rfl]
              · intro d hd hl hn
                rw [t.keep d ?_, hd, at_putD_eq hl]
                · rfl
                · rintro ⟨k, p, _, h2, h3, h4⟩
                  exact hn (writesA_cons.2 (.inr ⟨k, p, Nat.succ_pos _, h2, h3, h4⟩))
            | succ k =>
              obtain ⟨el, z', b1, b2, b3, b4⟩ := t.step k p (by simpa using hk) hp
              have hsz : H.size + cntA ((o :: l).take (k + 1)) = (H.push (.cells z.cells elem)).size + cntA (l.take k) := by rw [hc, IH.size_push]; omega
              refine ⟨el, z', b1, b2, by rw [hsz]; exact b3, ?_⟩
              intro d hd hl hn
              rw [hsz]
              refine b4 d hd (by rw [length_putD]; exact hl) ?_
              rintro ⟨k', p', h1, h2, h3, h4⟩
              exact hn (writesA_cons.2 (.inr ⟨k', p', Nat.succ_lt_succ h1, h2, h3, h4⟩))
        · cases hv
      · cases h
    · rename_i ha
      have ha : isAlloc o = false := by simpa using ha
      have t := iopsA_trace l _ _ _ _ h
      have hc : ∀ k, cntA ((o :: l).take (k + 1)) = cntA (l.take k) := fun k => by rw [List.take_succ_cons, cntA_cons, ha]; simp
      refine ⟨t.len, by rw [t.size, cntA_cons, ha]; simp, t.old, t.rel, ?_, ?_⟩
      · intro x hw
        rw [writesA_cons] at hw
        exact t.keep x fun hw' => hw (.inr hw')
      · intro k p hk hp
        cases k with
        | zero =>
          simp only [List.getElem?_cons_zero, Option.some.injEq] at hk
          subst hk
          rw [ha] at hp; cases hp
        | succ k =>
          obtain ⟨el, z', b1, b2, b3, b4⟩ := t.step k p (by simpa using hk) hp
          refine ⟨el, z', b1, b2, by rw [hc]; exact b3, ?_⟩
          intro d hd hl hn
          rw [hc]
          refine b4 d hd hl ?_
          rintro ⟨k', p', h1, h2, h3, h4⟩
          exact hn (writesA_cons.2 (.inr ⟨k', p', Nat.succ_lt_succ h1, h2, h3, h4⟩))

/-- a new variable gets its place -/
theorem Rel.mapNew {f : Inj} {H : IH} {w : World} {b : Nat} {c : Array Value} {elem : TypeId} (h : Rel P f H w) (hb : b < H.size) (hn : f b = none) (hg : H.get b = some (.cells c elem)) (hp : plainL c.toList = true) :
    Rel P (f.add b ⟨w.heap.size, 0, c.size, false⟩) H (w.alloc (.cells c elem)) ∧ (∀ H0 : IH, H0.size ≤ b → Grow f H0 w (f.add b ⟨w.heap.size, 0, c.size, false⟩) H0 (w.alloc (.cells c elem))) := by
  have hle : f.le (f.add b ⟨w.heap.size, 0, c.size, false⟩) := Inj.le_add hn
  have old : ∀ x y, f x = some y → y.r ≠ w.heap.size := fun x y hx => by have := h.bound x y hx; omega
  refine ⟨⟨?_, h.fresh, ?_, ?_, ?_, ?_⟩, fun H0 h0 => ⟨Nat.le_refl _, fun x hx hxn => by rw [Inj.add_other (by omega)]; exact hxn, hle, by simp, ?_, ?_, ⟨rfl, rfl, rfl⟩⟩⟩
  · intro x y hx
    by_cases e1 : x = b
    · subst e1; exact hb
    · rw [Inj.add_other e1] at hx; exact h.dom x y hx
  · intro x y hx
    by_cases e1 : x = b
    · subst e1; rw [Inj.add_same] at hx; cases hx; simp
    · rw [Inj.add_other e1] at hx; have := h.bound x y hx; simp; omega
  · intro x y ob hx hob
    by_cases e1 : x = b
    · subst e1; rw [Inj.add_same] at hx; cases hx
      rw [hg] at hob; cases hob
      rw [heap_alloc, if_pos rfl]
      refine ⟨c, elem, (0, 0), rfl, rfl, by simp, ?_, fun _ => ⟨rfl, rfl, fun j _ => by simp⟩, fun _ => ⟨rfl, rfl⟩⟩
      intro i v hv
      refine ⟨v, by simpa using hv, .base v ?_⟩
      exact plainL_iff.1 hp v (Array.mem_def.1 (Array.mem_of_getElem? hv))
    · rw [Inj.add_other e1] at hx
      rw [heap_alloc, if_neg (old x y hx)]
      exact (h.obj x y ob hx hob).mono hle
  · intro b1 b2 e1 e2 o1 o2 hne h1 h2 g1 g2 l1 l2 hr
    by_cases x1 : b1 = b
    · subst x1
      rw [Inj.add_same] at h1; cases h1
      rw [Inj.add_other (Ne.symm hne)] at h2
      exact absurd hr.symm (old b2 e2 h2)
    · rw [Inj.add_other x1] at h1
      by_cases x2 : b2 = b
      · subst x2
        rw [Inj.add_same] at h2; cases h2
        exact absurd hr (old b1 e1 h1)
      · rw [Inj.add_other x2] at h2
        exact h.sep b1 b2 e1 e2 o1 o2 hne h1 h2 g1 g2 l1 l2 hr
  · intro b1 b2 e1 e2 h1 h2 hr
    by_cases x1 : b1 = b
    · subst x1
      rw [Inj.add_same] at h1; cases h1
      by_cases x2 : b2 = b1
      · subst x2; rw [Inj.add_same] at h2; cases h2; rfl
      · rw [Inj.add_other x2] at h2; exact absurd hr.symm (old b2 e2 h2)
    · rw [Inj.add_other x1] at h1
      by_cases x2 : b2 = b
      · subst x2; rw [Inj.add_same] at h2; cases h2; exact absurd hr (old b1 e1 h1)
      · rw [Inj.add_other x2] at h2; exact h.rosame b1 b2 e1 e2 h1 h2 hr
  · intro r hr hno
    refine ⟨?_, by rw [heap_alloc, if_neg (by omega)]⟩
    rintro ⟨x, y, hx, hyr, hro⟩
    by_cases e1 : x = b
    · subst e1; rw [Inj.add_same] at hx; cases hx; simp at hyr; omega
    · rw [Inj.add_other e1] at hx; exact hno ⟨x, y, hx, hyr, hro⟩
  · intro r hr hu x y hx
    by_cases e1 : x = b
    · subst e1; rw [Inj.add_same] at hx; cases hx; simp; omega
    · rw [Inj.add_other e1] at hx; exact hu x y hx

/-! ### The static check -/
structure Stat (ops : Array Oper) : Prop where
  back : ∀ j o, ops[j]? = some o → ∀ e ∈ o.after, Region.binds .any e = true → e.on < j
  dst : ∀ (i j : Nat) (o p : Oper) (d : Tmp), i ≠ j → ops[i]? = some o → ops[j]? = some p → o.dst = some d → p.dst ≠ some d
  reads : ∀ (i j : Nat) (o p : Oper) (d : Tmp), i ≠ j → ops[i]? = some o → ops[j]? = some p → o.dst = some d → d ∈ readsT ops p →
    befB (Region.before ops) i j = true ∨ (isAlloc o = false ∧ befB (Region.before ops) j i = true)
  effs : ∀ (i j : Nat) (o p : Oper), i ≠ j → ops[i]? = some o → ops[j]? = some p → isEff o = true → isEff p = true → befB (Region.before ops) i j = true ∨ befB (Region.before ops) j i = true

theorem mem_zip {l : List Oper} {i : Nat} {o : Oper} : (o, i) ∈ l.zipIdx ↔ l[i]? = some o := by
  rw [List.mk_mem_zipIdx_iff_getElem?]

theorem stat_of {ops : Array Oper} (h : drawOk ops = true) : Stat ops := by
  unfold drawOk drawOkB at h
  simp only [List.all_eq_true] at h
  have h1 : ∀ i o, ops[i]? = some o → ∀ e ∈ o.after, Region.binds .any e = true → e.on < i := by
    intro i o ho e he hb
    have := h (o, i) (mem_zip.2 (by simpa using ho))
    simp only [Bool.and_eq_true, Array.all_eq_true_iff_forall_mem] at this
    have := this.1 e he
    rw [hb] at this
    simpa using this
  have h2 : ∀ i j o p, i ≠ j → ops[i]? = some o → ops[j]? = some p →
      (match o.dst with
          | some d => p.dst != some d && (!((readsT ops p).contains d) || cond (isAlloc o) (befB (Region.before ops) i j) (cmpB (Region.before ops) i j))
          | none => true) = true ∧ (!((clsOf o).eff && (clsOf p).eff) || cmpB (Region.before ops) i j) = true := by
    intro i j o p hij ho hp
    have h3 := h (o, i) (mem_zip.2 (by simpa using ho))
    simp only [Bool.and_eq_true, List.all_eq_true] at h3
    have h4 := h3.2 (p, j) (mem_zip.2 (by simpa using hp))
    simp only [hij, decide_false, Bool.false_or, Bool.and_eq_true] at h4
    exact ⟨h4.1.1, h4.1.2⟩
  refine ⟨h1, ?_, ?_, ?_⟩
  · intro i j o p d hij ho hp hd
    have := (h2 i j o p hij ho hp).1
    rw [hd] at this
    simp only [Bool.and_eq_true, bne_iff_ne, ne_eq] at this
    exact this.1
  · intro i j o p d hij ho hp hd hr
    have := (h2 i j o p hij ho hp).1
    rw [hd] at this
    simp only [Bool.and_eq_true] at this
    have := this.2
    have hc : (readsT ops p).contains d = true := List.contains_iff_mem.2 hr
    rw [hc] at this
    simp only [Bool.not_true, Bool.false_or] at this
    cases ha : isAlloc o with
    | true => rw [ha] at this; exact .inl this
    | false =>
      rw [ha] at this
      simp only [cond_false, cmpB, Bool.or_eq_true] at this
      rcases this with h | h
      · exact .inl h
      · exact .inr ⟨rfl, h⟩
  · intro i j o p hij ho hp he1 he2
    have := (h2 i j o p hij ho hp).2
    have e1 : (clsOf o).eff = true := he1
    have e2 : (clsOf p).eff = true := he2
    rw [e1, e2] at this
    simpa [cmpB] using this

/-! ### How many operations that turn memory come before -/
def effsOf (ops : Array Oper) : List (Oper × Nat) := ops.toList.zipIdx.filter fun q => (clsOf q.1).eff

theorem cnt_zip : ∀ (l : List Oper) (n m : Nat), (((l.zipIdx n).filter fun q => (clsOf q.1).eff).filter fun q => decide (q.2 < m)).length = cntE (l.take (m - n))
  | [], n, m => by simp [cntE]
  | o :: l, n, m => by
    rw [List.zipIdx_cons, List.filter_cons]
    have ih := cnt_zip l (n + 1) m
    by_cases hm : n < m
    · have e1 : m - n = (m - (n + 1)) + 1 := by omega
      rw [e1, List.take_succ_cons, cntE_cons, ← ih]
      by_cases he : isEff o = true
      · have he' : (clsOf o).eff = true := he
        rw [if_pos he', if_pos he, List.filter_cons]
        simp only [hm, decide_true, if_true, List.length_cons]
        omega
      · have he' : ¬ (clsOf o).eff = true := he
        rw [if_neg he', if_neg he]
        omega
    · have e1 : m - n = 0 := by omega
      have e2 : m - (n + 1) = 0 := by omega
      rw [e2] at ih
      rw [e1]
      simp only [List.take_zero] at ih ⊢
      by_cases he' : (clsOf o).eff = true
      · rw [if_pos he', List.filter_cons]
        simp only [hm, decide_false, Bool.false_eq_true, if_false]
        exact ih
      · rw [if_neg he']; exact ih

theorem cnt_eq (ops : Array Oper) (m : Nat) : ((effsOf ops).filter fun q => decide (q.2 < m)).length = cntE (ops.toList.take m) := by
  have := cnt_zip ops.toList 0 m
  simpa [effsOf] using this

theorem filter_le {α : Type} {l : List α} {p q : α → Bool} (h : ∀ a ∈ l, p a = true → q a = true) : (l.filter p).length ≤ (l.filter q).length := by
  rw [← List.countP_eq_length_filter, ← List.countP_eq_length_filter]
  exact List.countP_mono_left h

/-! ### Loose reads -/
theorem findL_some {i : Nat} {v : Nat × Nat} : ∀ (l : List (Nat × Nat × Nat)), (∀ a ∈ l, a.1 = i → a.2 = v) → (∃ a ∈ l, a.1 = i) → findL i l = some v
  | [], _, ⟨a, ha, _⟩ => by cases ha
  | a :: l, h, hx => by
    have hdef : findL i (a :: l) = cond (Nat.beq a.1 i) (some a.2) (findL i l) := rfl
    rw [hdef]
    cases hb : Nat.beq a.1 i with
    | true => rw [cond_true, h a List.mem_cons_self (Nat.eq_of_beq_eq_true hb)]
    | false =>
      rw [cond_false]
      refine findL_some l (fun b hb => h b (List.mem_cons_of_mem _ hb)) ?_
      obtain ⟨b, hb1, hb2⟩ := hx
      rcases List.mem_cons.1 hb1 with rfl | hb1
      · rw [hb2, Nat.beq_refl] at hb; cases hb
      · exact ⟨b, hb1, hb2⟩

def loOf (ops : Array Oper) (j : Nat) : Nat := ((effsOf ops).filter fun q => befB (Region.before ops) q.2 j).length
def hiOf (ops : Array Oper) (j : Nat) : Nat := ((effsOf ops).filter fun q => !befB (Region.before ops) j q.2).length

theorem loose_find {ops : Array Oper} {j : Nat} {o : Oper} (ho : ops[j]? = some o) (hc : clsOf o = .read) (hne : loOf ops j ≠ hiOf ops j) : findL j (loose ops) = some (loOf ops j, hiOf ops j) := by
  refine findL_some _ ?_ ?_
  · intro a ha hj
    unfold loose looseOf at ha
    rw [List.mem_filterMap] at ha
    obtain ⟨⟨p, k⟩, hp, ha⟩ := ha
    simp only at ha
    split at ha
    · cases ha
    · cases ha
      simp only at hj
      subst hj
      rfl
  · refine ⟨(j, loOf ops j, hiOf ops j), ?_, rfl⟩
    unfold loose looseOf
    rw [List.mem_filterMap]
    refine ⟨(o, j), List.mem_filter.2 ⟨mem_zip.2 (by simpa using ho), by simpa using hc⟩, ?_⟩
    exact if_neg hne

theorem stable_at {lo hi : Nat} {r : Rec} : ∀ (hs : List IH) (m : Nat), stableFrom P lo hi r hs m = true → ∀ k E, hs[k]? = some E → lo ≤ m + k → m + k ≤ hi → sameVal r.v (iop P r.o r.env E) = true
  | [], _, _, k, E, hk, _, _ => by simp at hk
  | h :: hs, m, hst, k, E, hk, h1, h2 => by
    have hst' : cond (Nat.ble lo m && Nat.ble m hi) (cond (sameVal r.v (iop P r.o r.env h)) (stableFrom P lo hi r hs (m + 1)) false) (stableFrom P lo hi r hs (m + 1)) = true := hst
    cases k with
    | zero =>
      simp only [List.getElem?_cons_zero, Option.some.injEq] at hk
      subst hk
      have e1 : Nat.ble lo m = true := Nat.ble_eq_true_of_le (by omega)
      have e2 : Nat.ble m hi = true := Nat.ble_eq_true_of_le (by omega)
      rw [e1, e2] at hst'
      cases hs : sameVal r.v (iop P r.o r.env h) with
      | true => rfl
      | false => rw [hs] at hst'; cases hst'
    | succ k =>
      have hnext : stableFrom P lo hi r hs (m + 1) = true := by
        cases hc : (Nat.ble lo m && Nat.ble m hi) with
        | true =>
          rw [hc] at hst'
          cases hs : sameVal r.v (iop P r.o r.env h) with
          | true => rw [hs] at hst'; exact hst'
          | false => rw [hs] at hst'; cases hst'
        | false => rw [hc] at hst'; exact hst'
      exact stable_at hs (m + 1) hnext k E (by simpa using hk) (by omega) (by omega)

theorem sameVal_inv {v : Value} {r : Option Step1} (h : sameVal v r = true) : ∃ H, r = some (.val v H) := by
  unfold sameVal at h
  split at h
  · rename_i u H; exact ⟨H, by rw [veq_sound h]⟩
  · cases h

/-! ### New variables stay as they were made -/
theorem sameFst_at {b : Nat} {o : Option Obj} : ∀ (hs : List IH) (n : Nat), sameFst b o hs n = true → ∀ m E, m < n → hs[m]? = some E → E.get b = o
  | [], _, _, m, E, _, hm => by simp at hm
  | h :: hs, 0, _, m, E, hlt, _ => by omega
  | h :: hs, n + 1, hst, m, E, hlt, hm => by
    have hst' : cond (ooeq (h.get b) o) (sameFst b o hs n) false = true := hst
    cases hc : ooeq (h.get b) o with
    | false => rw [hc] at hst'; cases hst'
    | true =>
      rw [hc] at hst'
      cases m with
      | zero =>
        simp only [List.getElem?_cons_zero, Option.some.injEq] at hm
        subst hm
        exact ooeq_sound hc
      | succ m => exact sameFst_at hs n hst' m E (by omega) (by simpa using hm)
theorem freshAll_at {H1 : IH} {hs : List IH} : ∀ (al : List Nat) (b : Nat), freshAll H1 hs al b = true → ∀ k hi, al[k]? = some hi → ∀ m E, m < hi → hs[m]? = some E → E.get (b + k) = H1.get (b + k)
  | [], _, _, k, hi, hk => by simp at hk
  | a :: al, b, h, k, hi, hk => by
    have h' : cond (sameFst b (H1.get b) hs a) (freshAll H1 hs al (b + 1)) false = true := h
    cases hc : sameFst b (H1.get b) hs a with
    | false => rw [hc] at h'; cases h'
    | true =>
      rw [hc] at h'
      cases k with
      | zero =>
        simp only [List.getElem?_cons_zero, Option.some.injEq] at hk
        subst hk
        exact fun m E hm he => sameFst_at hs a hc m E hm he
      | succ k =>
        intro m E hm he
        have := freshAll_at al (b + 1) h' k hi (by simpa using hk) m E hm he
        rwa [show b + (k + 1) = b + 1 + k by omega]

theorem alloc_zip : ∀ (l : List Oper) (n i : Nat) (o : Oper), l[i]? = some o → isAlloc o = true → ((l.zipIdx n).filter fun p => isAlloc p.1)[cntA (l.take i)]? = some (o, n + i)
  | [], n, i, o, h, _ => by simp at h
  | p :: l, n, 0, o, h, ha => by
    simp only [List.getElem?_cons_zero, Option.some.injEq] at h
    subst h
    rw [List.zipIdx_cons, List.filter_cons, if_pos ha]
    rfl
  | p :: l, n, i + 1, o, h, ha => by
    have ih := alloc_zip l (n + 1) i o (by simpa using h) ha
    rw [List.zipIdx_cons, List.filter_cons, List.take_succ_cons, cntA_cons]
    by_cases hp : isAlloc p = true
    · rw [if_pos hp, if_pos hp, Nat.add_comm 1, List.getElem?_cons_succ, ih]
      simp; omega
    · rw [if_neg hp, if_neg hp, Nat.zero_add, ih]
      simp; omega

theorem allocs_at {ops : Array Oper} {i : Nat} {o : Oper} (ho : ops[i]? = some o) (ha : isAlloc o = true) : (allocs ops)[cntA (ops.toList.take i)]? = some (hiOf ops i) := by
  unfold allocs allocsOf
  rw [List.getElem?_map, alloc_zip ops.toList 0 i o (by simpa using ho) ha]
  simp [hiOf, effsOf]

theorem cntA_lt {l : List Oper} {i : Nat} {o : Oper} (ho : l[i]? = some o) (ha : isAlloc o = true) : cntA (l.take i) < cntA l := by
  have e1 : l = l.take i ++ l.drop i := (List.take_append_drop i l).symm
  have hlt : i < l.length := (List.getElem?_eq_some_iff.1 ho).1
  have e2 : l.drop i = o :: l.drop (i + 1) := by
    rw [List.drop_eq_getElem_cons hlt]
    congr 1
    have := List.getElem?_eq_getElem hlt
    rw [ho] at this
    simpa using this.symm
  conv => rhs; rw [e1, e2]
  unfold cntA
  rw [List.countP_append, List.countP_cons, if_pos ha]
  omega
theorem cntA_ne {l : List Oper} {i j : Nat} {o : Oper} (ho : l[i]? = some o) (ha : isAlloc o = true) (hij : i < j) : cntA (l.take i) < cntA (l.take j) := by
  have h1 : (l.take j)[i]? = some o := by rw [List.getElem?_take, if_pos hij]; exact ho
  have := cntA_lt h1 ha
  rwa [List.take_take, Nat.min_eq_left (by omega)] at this
end Go.Idl

namespace Go.Idl
variable {P : Program} {nat : Nats} {B : Nat}

structure DR (P : Program) (run : Job → IH → T Out) (nat : Nats) (ops : Array Oper) (env0 : Env) (H0 : IH) (e1 : Env) (H1 : IH) (eF : Env) (HF : IH) (hs : List IH) (rs : List Rec) : Prop where
  st : Stat ops
  ta : TraceA P ops.toList env0 H0 e1 H1
  tr : Trace P run nat ops (loose ops) ops.toList 0 e1 H1 eF HF hs rs
  stable : ∀ r ∈ rs, stableAt P (loose ops) (H1 :: hs) r = true
  fresh : freshAll H1 hs (allocs ops) H0.size = true

theorem dr_of {run : Job → IH → T Out} {ops : Array Oper} {env : Env} {H : IH} {r : Env × IH} (hd : drawOk ops = true) (h : idraw P run nat ops env H = some r) :
    ∃ e1 H1 hs rs, DR P run nat ops env H e1 H1 r.1 r.2 hs rs := by
  unfold idraw at h
  split at h
  · rename_i e1 H1 ha
    unfold drawEnd at h
    split at h
    · rename_i env2 H2 hs rs hD
      cases hst : allR (stableAt P (loose ops) (H1 :: hs)) rs with
      | false => rw [hst] at h; cases h
      | true =>
        rw [hst] at h
        cases hf : freshAll H1 hs (allocs ops) H.size with
        | false => rw [hf] at h; cases h
        | true =>
          rw [hf] at h
          cases h
          exact ⟨e1, H1, hs, rs, stat_of hd, iopsA_trace _ _ _ _ _ ha, iopsD_trace _ _ _ _ _ _ _ _ hD, fun r hr => allR_iff.1 hst r hr, hf⟩
    · cases h
  · cases h

def sel (S : Array Bool) (j : Nat) : Prop := S.getD j false = true
def wr (ops : Array Oper) (S : Array Bool) (t : Nat) : Prop := ∃ j o, ops[j]? = some o ∧ sel S j ∧ o.dst = some t

open Classical in
noncomputable def cur (ops : Array Oper) (S : Array Bool) (env0 eF : Env) : Env := (List.range env0.length).map fun t => if wr ops S t then eF.at t else env0.at t
theorem cur_length (ops : Array Oper) (S : Array Bool) (env0 eF : Env) : (cur ops S env0 eF).length = env0.length := by simp [cur]
theorem at_ge {env : Env} {t : Nat} (h : env.length ≤ t) : env.at t = undef := by
  simp [Env.at, nthR_eq, List.getElem?_eq_none h]
open Classical in
theorem cur_at {ops : Array Oper} {S : Array Bool} {env0 eF : Env} (hl : eF.length = env0.length) (t : Nat) : (cur ops S env0 eF).at t = if wr ops S t then eF.at t else env0.at t := by
  by_cases ht : t < env0.length
  · simp [cur, Env.at, nthR_eq, List.getElem?_range ht]
  · rw [at_ge (by rw [cur_length]; omega), at_ge (by omega), at_ge (by omega)]
    simp
theorem env_ext {a b : Env} (hl : a.length = b.length) (h : ∀ t, a.at t = b.at t) : a = b := by
  apply List.ext_getElem? 
  intro t
  have := nthR_at hl (h t)
  rwa [nthR_eq, nthR_eq] at this

theorem sel_set {S : Array Bool} {j i : Nat} (hj : j < S.size) : sel (S.setIfInBounds j true) i ↔ i = j ∨ sel S i := by
  unfold sel
  by_cases h : i = j
  · subst h
    simp [Array.getD_eq_getD_getElem?, hj]
  · simp only [Array.getD_eq_getD_getElem?, Array.getElem?_setIfInBounds_ne (Ne.symm h), h, false_or]

theorem val_at {env : Env} {t : Tmp} : env.val (.tmp t) = env.at t := rfl

theorem val_congr {ops : Array Oper} {o : Oper} {a b : Env} (h : ∀ t ∈ readsT ops o, a.at t = b.at t) : ∀ x ∈ o.op.operands, a.val x = b.val x := by
  intro x hx
  cases x with
  | tmp t =>
    rw [val_at, val_at]
    refine h t (List.mem_append_left _ (List.mem_filterMap.2 ⟨.tmp t, Array.mem_def.1 hx, rfl⟩))
  | _ => rfl
theorem wanted_congr {ops : Array Oper} {o : Oper} {a b : Env} (hl : a.length = b.length) (h : ∀ t ∈ readsT ops o, a.at t = b.at t) : iwanted ops o a = iwanted ops o b := by
  unfold iwanted
  split
  · rfl
  · rename_i g want hg
    split
    · rename_i t ht
      rw [nthR_at hl (h t (List.mem_append_right _ (by rw [hg]; simp [ht])))]
    · rfl

theorem iop1_congr {run : Job → IH → T Out} {o : Oper} {a b : Env} {H : IH} (h : ∀ x ∈ o.op.operands, a.val x = b.val x) : iop1 P run nat o a H = iop1 P run nat o b H := by
  unfold iop1; rw [iop_congr h]

section
variable {run : Job → IH → T Out} {ops : Array Oper} {env0 : Env} {H0 : IH} {e1 : Env} {H1 : IH} {eF : Env} {HF : IH} {hs : List IH} {rs : List Rec}

def Clo (ops : Array Oper) (S : Array Bool) : Prop := ∀ i j, befB (Region.before ops) i j = true → sel S j → sel S i
def Cut (ops : Array Oper) (S : Array Bool) (p : Nat) : Prop := ∀ (j : Nat) (o : Oper), ops[j]? = some o → isEff o = true → (sel S j ↔ j < p)

theorem toL {j : Nat} {o : Oper} (h : ops[j]? = some o) : ops.toList[j]? = some o := by simpa using h

theorem dr_len (d : DR P run nat ops env0 H0 e1 H1 eF HF hs rs) : eF.length = env0.length := by rw [d.tr.len, d.ta.len]

/-- what an operation reads is as it was in the order of the text -/
theorem agree (d : DR P run nat ops env0 H0 e1 H1 eF HF hs rs) {S : Array Bool} (hclo : Clo ops S) {j : Nat} {o : Oper} (ho : ops[j]? = some o) (ha : isAlloc o = false) (hj : ¬ sel S j)
    (hp : ∀ i, befB (Region.before ops) i j = true → sel S i) {envj : Env} (h1 : ∀ t, ¬ writes ops.toList (fun k' => k' < j) t → envj.at t = e1.at t) (h2 : ∀ t, ¬ writes ops.toList (fun k' => j ≤ k') t → eF.at t = envj.at t) :
    ∀ t ∈ readsT ops o, (cur ops S env0 eF).at t = envj.at t := by
  intro t ht
  rw [cur_at (dr_len d)]
  by_cases hw : wr ops S t
  · rw [if_pos hw]
    obtain ⟨i, oi, hi, hs, hd⟩ := hw
    have hij : i ≠ j := fun e => hj (e ▸ hs)
    have hb : befB (Region.before ops) i j = true := by
      rcases d.st.reads i j oi o t hij hi ho hd ht with h | ⟨_, h⟩
      · exact h
      · exact absurd (hclo j i h hs) hj
    have hlt := bef_lt d.st.back j i hb
    refine h2 t ?_
    rintro ⟨k, p, hk, hp', _, hdp⟩
    have hp'' : ops[k]? = some p := by simpa using hp'
    exact d.st.dst i k oi p t (by omega) hi hp'' hd hdp
  · rw [if_neg hw]
    have hA : ¬ writesA ops.toList (fun _ => True) t := by
      rintro ⟨k, p, _, hp', hpa, hdp⟩
      have hp'' : ops[k]? = some p := by simpa using hp'
      have hkj : k ≠ j := by intro e; subst e; rw [ho] at hp''; cases hp''; rw [ha] at hpa; cases hpa
      rcases d.st.reads k j p o t hkj hp'' ho hdp ht with h | ⟨h, _⟩
      · exact hw ⟨k, p, hp'', hp k h, hdp⟩
      · rw [hpa] at h; cases h
    rw [← d.ta.keep t hA]
    refine (h1 t ?_).symm
    rintro ⟨k, p, hk, hp', _, hdp⟩
    have hp'' : ops[k]? = some p := by simpa using hp'
    rcases d.st.reads k j p o t (by omega) hp'' ho hdp ht with h | ⟨_, h⟩
    · exact hw ⟨k, p, hp'', hp k h, hdp⟩
    · have := bef_lt d.st.back k j h; omega

/-- one operation more -/
theorem cur_set (d : DR P run nat ops env0 H0 e1 H1 eF HF hs rs) {S : Array Bool} {j : Nat} {o : Oper} {v : Value} (ho : ops[j]? = some o) (hjs : j < S.size) (hv : ∀ t, o.dst = some t → t < env0.length → eF.at t = v) :
    cur ops (S.setIfInBounds j true) env0 eF = (cur ops S env0 eF).putD o.dst v := by
  apply env_ext
  · rw [length_putD, cur_length, cur_length]
  intro t
  rw [at_putD, cur_length, cur_at (dr_len d), cur_at (dr_len d)]
  by_cases hd : o.dst = some t
  · have hw : wr ops (S.setIfInBounds j true) t := ⟨j, o, ho, (sel_set hjs).2 (.inl rfl), hd⟩
    rw [if_pos hw]
    by_cases ht : t < env0.length
    · rw [if_pos ⟨hd, ht⟩, hv t hd ht]
    · rw [if_neg (c := o.dst = some t ∧ t < env0.length) (fun h => ht h.2), at_ge (by rw [dr_len d]; omega), at_ge (by omega)]; simp
  · rw [if_neg (c := o.dst = some t ∧ t < env0.length) (fun h => hd h.1)]
    have : wr ops (S.setIfInBounds j true) t ↔ wr ops S t := by
      constructor
      · rintro ⟨i, oi, h1, h2, h3⟩
        rcases (sel_set hjs).1 h2 with rfl | h2
        · rw [ho] at h1; cases h1; exact absurd h3 hd
        · exact ⟨i, oi, h1, h2, h3⟩
      · rintro ⟨i, oi, h1, h2, h3⟩
        exact ⟨i, oi, h1, (sel_set hjs).2 (.inr h2), h3⟩
    by_cases hw : wr ops S t
    · rw [if_pos hw, if_pos (this.2 hw)]
    · rw [if_neg hw, if_neg (fun h => hw (this.1 h))]

theorem cnt_le_of {p : Nat} {q : Oper × Nat → Bool} (h : ∀ x ∈ effsOf ops, x.2 < p → q x = true) : cntE (ops.toList.take p) ≤ ((effsOf ops).filter q).length := by
  rw [← cnt_eq]
  exact filter_le fun a ha hp => h a ha (by simpa using hp)
theorem cnt_ge_of {p : Nat} {q : Oper × Nat → Bool} (h : ∀ x ∈ effsOf ops, q x = true → x.2 < p) : ((effsOf ops).filter q).length ≤ cntE (ops.toList.take p) := by
  rw [← cnt_eq]
  exact filter_le fun a ha hp => by simpa using h a ha hp
theorem effs_mem {x : Oper × Nat} (h : x ∈ effsOf ops) : ops[x.2]? = some x.1 ∧ isEff x.1 = true := by
  obtain ⟨h1, h2⟩ := List.mem_filter.1 h
  exact ⟨by have := mem_zip.1 (show (x.1, x.2) ∈ ops.toList.zipIdx from h1); simpa using this, h2⟩

/-- an operation that turns memory finds the heap of the text's order -/
theorem cut_eff (d : DR P run nat ops env0 H0 e1 H1 eF HF hs rs) {S : Array Bool} (hclo : Clo ops S) {j : Nat} {o : Oper} (ho : ops[j]? = some o) (he : isEff o = true) (hj : ¬ sel S j)
    (hp : ∀ i, befB (Region.before ops) i j = true → sel S i) : ∀ (k : Nat) (q : Oper), ops[k]? = some q → isEff q = true → (sel S k ↔ k < j) := by
  intro k q hk hq
  by_cases hkj : k = j
  · subst hkj; exact ⟨fun h => absurd h hj, fun h => absurd h (Nat.lt_irrefl _)⟩
  · rcases d.st.effs k j q o hkj hk ho hq he with h | h
    · have := bef_lt d.st.back j k h
      exact ⟨fun _ => this, fun _ => hp k h⟩
    · have := bef_lt d.st.back k j h
      exact ⟨fun hs => absurd (hclo j k h hs) hj, fun hlt => by omega⟩
theorem cut_cnt {S : Array Bool} {p q : Nat} (h1 : Cut ops S p) (h2 : Cut ops S q) : cntE (ops.toList.take p) = cntE (ops.toList.take q) := by
  rw [← cnt_eq, ← cnt_eq]
  congr 1
  refine List.filter_congr fun x hx => ?_
  obtain ⟨g1, g2⟩ := effs_mem hx
  have e1 := h1 _ _ g1 g2
  have e2 := h2 _ _ g1 g2
  have : (x.2 < p) ↔ (x.2 < q) := e1.symm.trans e2
  simp [this]

/-- a new variable that is not made yet lies as it will be made -/
theorem fresh_cells (d : DR P run nat ops env0 H0 e1 H1 eF HF hs rs) {S : Array Bool} {p : Nat} (hclo : Clo ops S) (hcut : Cut ops S p) {E : IH} (hE : (H1 :: hs)[cntE (ops.toList.take p)]? = some E) {i : Nat} {o : Oper} (ho : ops[i]? = some o)
    (ha : isAlloc o = true) (hi : ¬ sel S i) : E.get (H0.size + cntA (ops.toList.take i)) = H1.get (H0.size + cntA (ops.toList.take i)) := by
  have hle : cntE (ops.toList.take p) ≤ hiOf ops i := cnt_le_of fun x hx hlt => by
    obtain ⟨g1, g2⟩ := effs_mem hx
    have hs := (hcut _ _ g1 g2).2 hlt
    cases hb : befB (Region.before ops) i x.2 with
    | false => rfl
    | true => exact absurd (hclo i x.2 hb hs) hi
  cases hc : cntE (ops.toList.take p) with
  | zero => rw [hc] at hE; simp at hE; rw [hE]
  | succ m =>
    rw [hc] at hE hle
    rw [List.getElem?_cons_succ] at hE
    exact freshAll_at (allocs ops) H0.size d.fresh _ _ (allocs_at ho ha) m E (by omega) hE

/-- an operation that turns no memory yields the same at every heap at which it may come up -/
theorem calm_at (d : DR P run nat ops env0 H0 e1 H1 eF HF hs rs) {S : Array Bool} {p : Nat} (hclo : Clo ops S) (hcut : Cut ops S p) {E : IH} (hE : (H1 :: hs)[cntE (ops.toList.take p)]? = some E) {j : Nat} {o : Oper} (ho : ops[j]? = some o)
    (he : isEff o = false) (ha : isAlloc o = false) (hj : ¬ sel S j) (hp : ∀ i, befB (Region.before ops) i j = true → sel S i) {envj : Env} {Hj : IH} {v : Value} (hH : (H1 :: hs)[cntE (ops.toList.take j)]? = some Hj)
    (hv : iop P o envj Hj = some (.val v Hj)) (hrec : ∀ p, findL j (loose ops) = some p → (⟨j, o, envj, v⟩ : Rec) ∈ rs) : iop P o envj E = some (.val v E) := by
  rcases not_eff he ha with hc | hc
  · obtain ⟨u, h1, h2⟩ := pure_loose hc Hj _ hv
    cases h1
    exact h2 E
  · have l1 : loOf ops j ≤ cntE (ops.toList.take p) := cnt_ge_of fun x hx hb => by
      obtain ⟨g1, g2⟩ := effs_mem hx
      exact (hcut _ _ g1 g2).1 (hp _ hb)
    have l2 : loOf ops j ≤ cntE (ops.toList.take j) := cnt_ge_of fun x hx hb => bef_lt d.st.back _ _ hb
    have u1 : cntE (ops.toList.take p) ≤ hiOf ops j := cnt_le_of fun x hx hlt => by
      obtain ⟨g1, g2⟩ := effs_mem hx
      have hs := (hcut _ _ g1 g2).2 hlt
      cases hb : befB (Region.before ops) j x.2 with
      | false => rfl
      | true => exact absurd (hclo j x.2 hb hs) hj
    have u2 : cntE (ops.toList.take j) ≤ hiOf ops j := cnt_le_of fun x hx hlt => by
      cases hb : befB (Region.before ops) j x.2 with
      | false => rfl
      | true => have := bef_lt d.st.back _ _ hb; omega
    by_cases heq : loOf ops j = hiOf ops j
    · have : cntE (ops.toList.take p) = cntE (ops.toList.take j) := by omega
      rw [this, hH] at hE
      cases hE
      exact hv
    · have hf := loose_find ho hc heq
      have hst := d.stable _ (hrec _ hf)
      unfold stableAt at hst
      simp only [hf] at hst
      have hsv := stable_at (H1 :: hs) 0 hst _ E hE (by omega) (by omega)
      obtain ⟨H', hH'⟩ := sameVal_inv hsv
      simp only at hH'
      obtain ⟨u, hu⟩ := read_keep hc hH'
      cases hu
      exact hH'

def unl (ops : Array Oper) (S : Array Bool) : Nat := (List.range ops.size).countP fun j => !S.getD j false
theorem countP_lt {α : Type} {p q : α → Bool} : ∀ (l : List α), (∀ a ∈ l, p a = true → q a = true) → (∃ a ∈ l, q a = true ∧ p a = false) → l.countP p < l.countP q
  | [], _, ⟨a, ha, _⟩ => by cases ha
  | b :: l, h, ⟨a, ha, h1, h2⟩ => by
    rw [List.countP_cons, List.countP_cons]
    have hle : l.countP p ≤ l.countP q := List.countP_mono_left fun a ha => h a (List.mem_cons_of_mem _ ha)
    rcases List.mem_cons.1 ha with rfl | ha
    · rw [h1, h2]; simp; omega
    · have := countP_lt l (fun a ha => h a (List.mem_cons_of_mem _ ha)) ⟨a, ha, h1, h2⟩
      by_cases hb : p b = true
      · rw [if_pos hb, if_pos (h b List.mem_cons_self hb)]; omega
      · rw [if_neg hb]; omega
theorem unl_set {S : Array Bool} {j : Nat} (hj : j < ops.size) (hs : S.size = ops.size) (hn : ¬ sel S j) : unl ops (S.setIfInBounds j true) < unl ops S := by
  refine countP_lt _ ?_ ⟨j, List.mem_range.2 hj, ?_, ?_⟩
  · intro i _ h
    simp only [Bool.not_eq_true'] at h ⊢
    cases hi : S.getD i false with
    | false => rfl
    | true =>
      have := (sel_set (S := S) (j := j) (i := i) (by omega)).2 (.inr hi)
      unfold sel at this
      rw [h] at this; cases this
  · simp only [Bool.not_eq_true']
    cases hi : S.getD j false with
    | false => rfl
    | true => exact absurd hi hn
  · have := (sel_set (S := S) (j := j) (i := j) (by omega)).2 (.inl rfl)
    unfold sel at this
    rw [this]; rfl

/-- where a run of the region stands -/
structure Stand (P : Program) (B : Nat) (ops : Array Oper) (env0 : Env) (H0 : IH) (H1 : IH) (eF : Env) (hs : List IH) (f0 : Inj) (w0 : World) (S : Array Bool) (a : Act) (w : World) (p : Nat) (E : IH) (f : Inj) : Prop where
  size : S.size = ops.size
  clo : Clo ops S
  cut : Cut ops S p
  heap : (H1 :: hs)[cntE (ops.toList.take p)]? = some E
  rel : Rel P f E w
  grow : Grow f0 H0 w0 f H0 w
  env : VRelL P f (cur ops S env0 eF) a.tmps.toList
  marks : Marks B f w a.defers
  isize : H1.size ≤ E.size
  un : ∀ i o, ops[i]? = some o → isAlloc o = true → ¬ sel S i → f (H0.size + cntA (ops.toList.take i)) = none

theorem Grow.at {f f' : Inj} {H H' H0 : IH} {w w' : World} (h : Grow f H w f' H' w') (h0 : H0.size ≤ H.size) : Grow f H0 w f' H0 w' :=
  ⟨Nat.le_refl _, fun b hb hn => h.stay b (Nat.lt_of_lt_of_le hb h0) hn, h.le, h.size, h.keep, h.un, h.out⟩

theorem clo_set {S : Array Bool} {j : Nat} (hjs : j < S.size) (hclo : Clo ops S) (hp : ∀ i, befB (Region.before ops) i j = true → sel S i) : Clo ops (S.setIfInBounds j true) := by
  intro i k hb hk
  rw [sel_set hjs] at hk ⊢
  rcases hk with rfl | hk
  · exact .inr (hp i hb)
  · exact .inr (hclo i k hb hk)

theorem take_succ' {l : List Oper} {j : Nat} {o : Oper} (h : l[j]? = some o) : l.take (j + 1) = l.take j ++ [o] := by
  rw [List.take_add_one, h]; rfl
theorem cntE_succ {j : Nat} {o : Oper} (h : ops[j]? = some o) (he : isEff o = true) : cntE (ops.toList.take (j + 1)) = cntE (ops.toList.take j) + 1 := by
  rw [take_succ' (toL h)]
  unfold cntE
  rw [List.countP_append, List.countP_singleton, if_pos he]

theorem dst_fresh (d : DR P run nat ops env0 H0 e1 H1 eF HF hs rs) {j : Nat} {o : Oper} {t : Tmp} (ho : ops[j]? = some o) (hd : o.dst = some t) : ¬ writes ops.toList (fun k => j < k) t := by
  rintro ⟨k, p, hk, hp, _, hdp⟩
  exact d.st.dst j k o p t (by omega) ho (by simpa using hp) hd hdp

/-- the world behind the region -/
theorem Stand.done (d : DR P run nat ops env0 H0 e1 H1 eF HF hs rs) {f0 : Inj} {w0 : World} {S : Array Bool} {a : Act} {w : World} {p : Nat} {E : IH} {f : Inj} (s : Stand P B ops env0 H0 H1 eF hs f0 w0 S a w p E f) (hall : ∀ j, j < ops.size → sel S j) :
    XPost P B f0 H0 w0 (fun o => o = ⟨.normal, eF, HF⟩) .normal a w := by
  have hcut : Cut ops S ops.size := fun j o ho _ => ⟨fun _ => (Array.getElem?_eq_some_iff.1 ho).1, fun h => hall j h⟩
  have hc := cut_cnt s.cut hcut
  have hfull : ops.toList.take ops.size = ops.toList := by
    apply List.take_of_length_le; simp
  rw [hfull] at hc
  have hE : E = HF := by
    have h1 := s.heap
    rw [hc, d.tr.last] at h1
    cases h1; rfl
  subst hE
  have hcur : cur ops S env0 eF = eF := by
    apply env_ext
    · rw [cur_length, dr_len d]
    intro t
    rw [cur_at (dr_len d)]
    by_cases hw : wr ops S t
    · rw [if_pos hw]
    · rw [if_neg hw]
      have hn : ∀ (k : Nat) (o : Oper), ops[k]? = some o → o.dst ≠ some t := fun k o hk hd => hw ⟨k, o, hk, hall k (Array.getElem?_eq_some_iff.1 hk).1, hd⟩
      rw [d.tr.keep t, d.ta.keep t]
      · rintro ⟨k, o, _, h2, _, h4⟩; exact hn k o (by simpa using h2) h4
      · rintro ⟨k, o, _, h2, _, h4⟩; exact hn k o (by simpa using h2) h4
  have h0 : H0.size ≤ E.size := Nat.le_trans (by rw [d.ta.size]; omega) s.isize
  exact ⟨⟨.normal, eF, E⟩, f, rfl, rfl, s.rel, s.grow.sizes (Nat.le_refl _) h0, hcur ▸ s.env, s.marks⟩

theorem any_sound {G : Nat → Bool} {F : Fence} (hF : Free F) (hc : CallSpec P G (enterT run nat)) (hr : RoundSpec P G run) (d : DR P run nat ops env0 H0 e1 H1 eF HF hs rs) {f0 : Inj} {w0 : World} (hG : Glob G f0) (hok : opsOk (globOk f0) ops = true) :
    ∀ (fuel : Nat) (S : Array Bool) (a : Act) (w : World), unl ops S ≤ fuel → (∃ p E f, Stand P B ops env0 H0 H1 eF hs f0 w0 S a w p E f) →
      wpAnyIn F 0 P .any ops (XPost P B f0 H0 w0 fun o => o = ⟨.normal, eF, HF⟩) fuel S a w := by
  intro fuel
  have all_of_ready : ∀ {S : Array Bool}, S.size = ops.size → Region.ready .any ops S = [] → ∀ j, j < ops.size → sel S j := by
    intro S hsz hr j
    induction j using Nat.strongRecOn with
    | _ j ih =>
      intro hj
      by_cases hs : sel S j
      · exact hs
      · exfalso
        have : j ∈ Region.ready .any ops S := by
          rw [mem_ready]
          refine ⟨?_, ops[j], by simp [hj], fun e he hb => ?_⟩
          · unfold sel at hs
            rw [Array.getD_eq_getD_getElem?] at hs ⊢
            rw [Array.getElem?_eq_getElem (by omega)] at hs ⊢
            simpa using hs
          · have hlt := d.st.back j ops[j] (by simp [hj]) e he hb
            exact ih e.on hlt (by omega)
        rw [hr] at this
        cases this
  induction fuel with
  | zero =>
    rintro S a w hu ⟨p, E, f, s⟩
    have hall : ∀ j, j < ops.size → sel S j := by
      intro j hj
      have hz : unl ops S = 0 := by omega
      unfold unl at hz
      have := List.countP_eq_zero.1 hz j (List.mem_range.2 hj)
      unfold sel
      simpa using this
    refine ⟨?_, s.done d hall⟩
    cases hrd : Region.ready .any ops S with
    | nil => rfl
    | cons x l =>
      have hx : x ∈ Region.ready .any ops S := by rw [hrd]; exact List.mem_cons_self
      rw [mem_ready] at hx
      obtain ⟨h1, o, ho, _⟩ := hx
      have hlt := (Array.getElem?_eq_some_iff.1 ho).1
      have := hall x hlt
      unfold sel at this
      rw [Array.getD_eq_getD_getElem?, Array.getElem?_eq_getElem (by rw [s.size]; exact hlt)] at h1 this
      simp only [Option.getD_some] at h1 this
      rw [h1] at this; cases this
  | succ fuel ih =>
    rintro S a w hu ⟨p, E, f, s⟩
    refine ⟨fun hrd => s.done d (all_of_ready s.size hrd), fun j hj => ?_⟩
    rw [mem_ready] at hj
    obtain ⟨hjl, o, ho, hedge⟩ := hj
    have hlt := (Array.getElem?_eq_some_iff.1 ho).1
    have hjs : j < S.size := by rw [s.size]; exact hlt
    have hnj : ¬ sel S j := by
      unfold sel
      rw [Array.getD_eq_getD_getElem?, Array.getElem?_eq_getElem hjs] at hjl ⊢
      simp only [Option.getD_some] at hjl ⊢
      rw [hjl]; simp
    have hp : ∀ i, befB (Region.before ops) i j = true → sel S i := by
      intro i hb
      obtain ⟨e, he, hbd, h3⟩ := (bef_iff d.st.back ho).1 hb
      have := hedge e he hbd
      rcases h3 with rfl | h3
      · exact this
      · exact s.clo _ _ h3 this
    have hu' : unl ops (S.setIfInBounds j true) ≤ fuel := by
      have := unl_set hlt s.size hnj; omega
    have hH0 : H0.size ≤ E.size := Nat.le_trans (by rw [d.ta.size]; omega) s.isize
    have hclo' := clo_set hjs s.clo hp
    have hok' : o.op.operands.toList.all (opdOk (globOk f)) = true := by
      have h1 := opsOk_mono (globOk_mono s.grow.le) hok
      unfold opsOk at h1
      exact List.all_eq_true.1 h1 o (Array.mem_def.1 (Array.mem_of_getElem? ho))
    have hG' : Glob G f := hG.mono s.grow.le
    unfold wpOpIn
    simp only [ho]
    cases hal : isAlloc o with
    | true =>
      obtain ⟨elem, hop, hguard⟩ := alloc_inv hal
      obtain ⟨elem', z, hop', hz, hcell, hval⟩ := d.ta.step j o (toL ho) hal
      rw [hop] at hop'; cases hop'
      obtain ⟨hz0, hplain⟩ := zeroP_some hz
      have hwant : Region.wanted o (yielded ops a.tmps) = true := by unfold Region.wanted; rw [hguard]
      rw [hwant, if_pos rfl]
      have hb : H0.size + cntA (ops.toList.take j) < E.size := by
        have h1 := cntA_lt (toL ho) hal
        have h2 := d.ta.size
        have h3 := s.isize
        omega
      have hcells : E.get (H0.size + cntA (ops.toList.take j)) = some (.cells z.cells elem) := by
        rw [fresh_cells d s.clo s.cut s.heap ho hal hnj]; exact hcell
      have hun := s.un j o ho hal hnj
      obtain ⟨r1, r2⟩ := s.rel.mapNew hb hun hcells hplain
      refine ⟨fun g _ => hF.fn g, ?_⟩
      have hsem : o.semAt F.round a.eval = execOp a.eval o := by
        cases F.round with
        | none => rfl
        | some l => exact Oper.semAt_some l _ _ (fun c hc => by rw [hop] at hc; cases hc)
      have hrun : (execOp a.eval o).run P w = .ok (.value (.pointer (some ⟨w.heap.size, 0, none⟩))) (w.alloc (.cells z.cells elem)) := by
        unfold execOp
        rw [hop]
        simp [Instr.alloc, run_zero hz0, newVar, newRow]
      rw [hsem, hrun]
      show wpAnyIn F 0 P .any ops _ fuel (S.setIfInBounds j true) (a.put o.dst (.pointer (some ⟨w.heap.size, 0, none⟩))) (w.alloc (.cells z.cells elem))
      refine ih _ _ _ hu' ⟨p, E, f.add (H0.size + cntA (ops.toList.take j)) ⟨w.heap.size, 0, z.cells.size, false⟩, ?_⟩
      have hg1 := r2 H0 (by omega)
      refine ⟨by simp [s.size], hclo', ?_, s.heap, r1, s.grow.trans hg1, ?_, ?_, s.isize, ?_⟩
      · intro k q hk hq
        rw [sel_set hjs]
        have hkj : k ≠ j := by intro e; subst e; rw [ho] at hk; cases hk; rw [alloc_not_eff hal] at hq; cases hq
        simp only [hkj, false_or]
        exact s.cut k q hk hq
      · rw [cur_set d (v := .pointer (some ⟨H0.size + cntA (ops.toList.take j), 0, none⟩)) ho hjs]
        · refine putD_rel (s.env.mono hg1.le) ?_ _
          have := VRel.ptr (P := P) (o := 0) (Inj.add_same (f := f) (b := H0.size + cntA (ops.toList.take j)) (e := ⟨w.heap.size, 0, z.cells.size, false⟩))
          exact this
        · intro t hd ht
          rw [d.tr.keep t, hval t hd ht]
          · rintro ⟨k, q, hk, hq, _, hdq⟩
            exact d.st.dst j k o q t (by omega) ho (by simpa using hq) hd hdq
          · rintro ⟨k, q, _, hq, hqa, hdq⟩
            have hq' : ops[k]? = some q := by simpa using hq
            have hkj : j ≠ k := by intro e; subst e; rw [ho] at hq'; cases hq'; rw [hal] at hqa; cases hqa
            exact d.st.dst j k o q t hkj ho hq' hd hdq
      · rw [put_defers]
        exact Marks.grow hg1 _ s.marks
      · intro i q hi hq hni
        rw [sel_set hjs] at hni
        have hij : i ≠ j := fun e => hni (.inl e)
        have hne : H0.size + cntA (ops.toList.take i) ≠ H0.size + cntA (ops.toList.take j) := by
          rcases Nat.lt_or_gt_of_ne hij with h | h
          · have := cntA_ne (toL hi) hq h; omega
          · have := cntA_ne (toL ho) hal h; omega
        rw [Inj.add_other hne]
        exact s.un i q hi hq (fun h => hni (.inr h))
    | false =>
      obtain ⟨envj, Hj, b1, b2, b3, b4, b5⟩ := d.tr.step j o (toL ho) hal
      rw [Nat.zero_add] at b5
      have hag := agree d s.clo ho hal hnj hp b2 b3
      have hlen : (cur ops S env0 eF).length = envj.length := by rw [cur_length, b1, d.ta.len]
      have hle' : envj.length = env0.length := by rw [b1, d.ta.len]
      have hval := val_congr hag
      have hwc := wanted_congr hlen hag
      -- the cut behind the operation, and the heap there
      have hcutE : isEff o = true → Cut ops S j := fun he => cut_eff d s.clo ho he hnj hp
      have hEj : isEff o = true → E = Hj := fun he => by
        have h1 := s.heap
        rw [cut_cnt s.cut (hcutE he), b4] at h1
        cases h1; rfl
      have cut' : ∀ (E' : IH), (isEff o = true → (H1 :: hs)[cntE (ops.toList.take j) + 1]? = some E') → (isEff o = false → E' = E) →
          ∃ p', Cut ops (S.setIfInBounds j true) p' ∧ (H1 :: hs)[cntE (ops.toList.take p')]? = some E' := by
        intro E' h1 h2
        cases he : isEff o with
        | true =>
          refine ⟨j + 1, ?_, by rw [cntE_succ ho he]; exact h1 he⟩
          intro k q hk hq
          rw [sel_set hjs, hcutE he k q hk hq]
          omega
        | false =>
          refine ⟨p, ?_, by rw [h2 he]; exact s.heap⟩
          intro k q hk hq
          rw [sel_set hjs]
          have hkj : k ≠ j := by intro e; subst e; rw [ho] at hk; cases hk; rw [he] at hq; cases hq
          simp only [hkj, false_or]
          exact s.cut k q hk hq
      have un' : ∀ (f' : Inj), (∀ b, b < E.size → f b = none → f' b = none) → ∀ i q, ops[i]? = some q → isAlloc q = true → ¬ sel (S.setIfInBounds j true) i → f' (H0.size + cntA (ops.toList.take i)) = none := by
        intro f' hst i q hi hq hni
        rw [sel_set hjs] at hni
        have h1 := cntA_lt (toL hi) hq
        have h2 := d.ta.size
        have h3 := s.isize
        exact hst _ (by omega) (s.un i q hi hq (fun h => hni (.inr h)))
      rcases b5.out with ⟨c1, c2, c3⟩ | ⟨c1, v, H', c2, c3, c4, c5, c6⟩
      · rw [← hwc] at c1
        rw [wanted_rel s.env c1, if_neg (by simp)]
        refine ⟨fun g _ => hF.fn g, ih _ _ _ hu' ?_⟩
        obtain ⟨p', k1, k2⟩ := cut' E (fun he => by rw [hEj he]; exact c3 he) (fun _ => rfl)
        refine ⟨p', E, f, by simp [s.size], hclo', k1, k2, s.rel, s.grow, ?_, by rw [put_defers]; exact s.marks, s.isize, un' f fun _ _ h => h⟩
        rw [cur_set d ho hjs (v := undef) fun t hd ht => c2 t hd (Nat.lt_of_lt_of_eq ht hle'.symm) (dst_fresh d ho hd)]
        exact putD_rel s.env .undef _
      · rw [← hwc] at c1
        rw [wanted_rel s.env c1, if_pos rfl]
        have hrun : ∃ E', iop1 P run nat o (cur ops S env0 eF) E = .ret (v, E') ∧ (isEff o = true → E' = H') ∧ (isEff o = false → E' = E) := by
          cases he : isEff o with
          | true => exact ⟨H', by rw [iop1_congr hval, hEj he]; exact c2, fun _ => rfl, fun h => absurd h (by simp)⟩
          | false =>
            obtain ⟨g1, g2⟩ := iop1_calm he hal c2
            simp only at g1 g2
            have := calm_at d s.clo s.cut s.heap ho he hal hnj hp b4 g2 c6
            exact ⟨E, by rw [iop1_congr hval]; exact iop1_val this, fun h => absurd h (by simp), fun _ => rfl⟩
        obtain ⟨E', q1, q2, q3⟩ := hrun
        refine op_sound (Q := fun r => r = (v, E')) hF hc hr s.rel hG' s.env hok' (by rw [q1]; rfl) ?_
        rintro r v' w' f' rfl k1 k2 k3
        refine ih _ _ _ hu' ?_
        obtain ⟨p', m1, m2⟩ := cut' E' (fun he => by rw [q2 he]; exact c4 he) q3
        refine ⟨p', E', f', by simp [s.size], hclo', m1, m2, k1, s.grow.trans (k2.at hH0), ?_, by rw [put_defers]; exact Marks.grow k2 _ s.marks, Nat.le_trans s.isize k2.isize, un' f' k2.stay⟩
        rw [cur_set d ho hjs (v := v) fun t hd ht => c3 t hd (Nat.lt_of_lt_of_eq ht hle'.symm) (dst_fresh d ho hd)]
        exact putD_rel (s.env.mono k2.le) k3 _

theorem draw_sound {G : Nat → Bool} (hmix : P.follows .mixedOrders = true) (hc : CallSpec P G (enterT run nat)) (hr : RoundSpec P G run) : DrawSpec P G nat run := by
  intro B F id ops env H f a w r hF hR hG hok hdr henv hm h
  obtain ⟨e1, H1, hs, rs, d⟩ := dr_of hdr h
  refine wpIn_region_any hmix (any_sound hF hc hr d hG hok _ _ _ _ ?_ ⟨0, H1, f, ?_⟩)
  · unfold unl
    have := List.countP_le_length (p := fun j => !(Array.replicate ops.size false).getD j false) (l := List.range ops.size)
    simpa using this
  · have hsel : ∀ i, ¬ sel (Array.replicate ops.size false) i := by
      intro i h
      unfold sel at h
      rw [Array.getD_eq_getD_getElem?, Array.getElem?_replicate] at h
      split at h <;> simp at h
    have hcur : cur ops (Array.replicate ops.size false) env r.1 = env := by
      apply env_ext (cur_length _ _ _ _)
      intro t
      rw [cur_at (dr_len d), if_neg]
      rintro ⟨j, o, _, h2, _⟩
      exact hsel j h2
    have hw : Grow f H w f H { w with drawn := w.drawn + 1 } := Grow.world rfl
    refine ⟨by simp, fun i j _ hj => absurd hj (hsel j), fun j o _ _ => ⟨fun h => absurd h (hsel j), fun h => by omega⟩, ?_, (d.ta.rel f w hR).world rfl, hw, by rw [hcur]; exact henv, Marks.grow hw _ hm, Nat.le_refl _, ?_⟩
    · simp [cntE]
    · intro i o ho ha _
      cases hx : f (H.size + cntA (ops.toList.take i)) with
      | none => rfl
      | some y => have := hR.dom _ _ hx; omega
end
end Go.Idl
