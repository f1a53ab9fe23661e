/- Rules for runs at values that are not known. Conditions: none. -/
import Derived.Test.YtpdlblofcdcikaaGreatDoorIdlI
set_option linter.unusedSimpArgs false
set_option linter.unusedVariables false
namespace Go.Idl
variable {P : Program} {good : FuncId → Bool} {nat : Nats} {rd : Bool}

theorem qX {α : Type} (a : α) (l : List α) : nthR (a :: l) 0 = some a := Eq.trans rfl rfl
theorem qY {α : Type} (a : α) (l : List α) (n : Nat) : nthR (a :: l) (n + 1) = nthR l n := Eq.trans rfl rfl
theorem qZ {α : Type} (a b : α) (l : List α) : setR (a :: l) 0 b = b :: l := Eq.trans rfl rfl
theorem zA {α : Type} (a b : α) (l : List α) (n : Nat) : setR (a :: l) (n + 1) b = a :: setR l n b := Eq.trans rfl rfl

theorem qT (env : Env) (t : Tmp) : env.val (.tmp t) = (nthR env t).getD undef := Eq.trans rfl rfl
theorem qV (env : Env) (v : Value) : env.val (.const v) = v := Eq.trans rfl rfl
theorem qW (env : Env) (f : FuncId) : env.val (.func f) = .func (.func f) #[] #[] := rfl

theorem zB (env : Env) (t : Tmp) (v : Value) : env.putD (some t) v = setR env t v := Eq.trans rfl rfl
theorem zC (env : Env) (v : Value) : env.putD none v = env := Eq.trans rfl rfl

/-! ### Guards -/
theorem want_none {ops : Array Oper} {d : Option Tmp} {op : Op} {ty : TypeId} {p : String} {a : Array Edge} {env : Env} : iwanted ops ⟨d, op, ty, p, a, none⟩ env = some true := rfl
theorem want_some {ops : Array Oper} {d : Option Tmp} {op : Op} {ty : TypeId} {p : String} {a : Array Edge} {env : Env} {j : Nat} {w b : Bool} {t : Tmp} (h1 : (ops[j]?).bind (·.dst) = some t) (h2 : nthR env t = some (.bool b)) :
    iwanted ops ⟨d, op, ty, p, a, some (j, w)⟩ env = some (b == w) := by
  unfold iwanted; simp only [h1, h2]; rfl
theorem want_undef {ops : Array Oper} {d : Option Tmp} {op : Op} {ty : TypeId} {p : String} {a : Array Edge} {env : Env} {j : Nat} {w : Bool} {t : Tmp} (h1 : (ops[j]?).bind (·.dst) = some t) (h2 : nthR env t = some undef) :
    iwanted ops ⟨d, op, ty, p, a, some (j, w)⟩ env = some false := by
  unfold iwanted; simp only [h1, h2]; rfl
theorem byWant_true {α : Type} (x y z : α) : byWant (some true) x y z = x := rfl
theorem byWant_false {α : Type} (x y z : α) : byWant (some false) x y z = y := rfl

/-! ### One operation -/
theorem one_val {run : Job → IH → T Out} {o : Oper} {env : Env} {H : IH} (s : Option Step1) (h : iop P o env H = s) : iop1 P run nat o env H = step1T run nat s := by unfold iop1; rw [h]
theorem qR {run : Job → IH → T Out} {v : Value} {H : IH} : step1T run nat (some (.val v H)) = .ret (v, H) := Eq.trans rfl rfl
theorem qS {run : Job → IH → T Out} {g : FuncId} {args : List Value} {H : IH} : step1T run nat (some (.enter g args H)) = enterT run nat g args H := Eq.trans rfl rfl
theorem enter_nat {run : Job → IH → T Out} {g : FuncId} {args : List Value} {H : IH} {k : List Value → IH → Option Value} {v : Value} (h : nat g = some (ofK k)) (hk : k args H = some v) : enterT run nat g args H = .ret (v, H) := by
  unfold enterT; rw [h]; simp only [ofK, hk]

/-! ### Integers -/
section
variable {o : Oper} {t : TypeId} {k : IntKind} {a b : Int} {env : Env} {H : IH}
theorem bin_int {op : BinOp} {v : Value} (h : intBin op k a b = some v) : ibinOp P o op t (.int k a) (.int k b) env H = some (.val v H) := by
  unfold ibinOp intBin2 asI
  simp only [kIdx_self, cond_true, h]
theorem zD : ibinOp P o .lss t (.int k a) (.int k b) env H = some (.val (.bool (decide (a < b))) H) := bin_int rfl
theorem zE : ibinOp P o .leq t (.int k a) (.int k b) env H = some (.val (.bool (decide (a ≤ b))) H) := bin_int rfl
theorem zF : ibinOp P o .gtr t (.int k a) (.int k b) env H = some (.val (.bool (decide (b < a))) H) := bin_int rfl
theorem zG : ibinOp P o .geq t (.int k a) (.int k b) env H = some (.val (.bool (decide (b ≤ a))) H) := bin_int rfl
theorem zH : ibinOp P o .eql t (.int k a) (.int k b) env H = some (.val (.bool (a == b)) H) := bin_int rfl
theorem zJ : ibinOp P o .neq t (.int k a) (.int k b) env H = some (.val (.bool (a != b)) H) := bin_int rfl
theorem zK : ibinOp P o .add t (.int k a) (.int k b) env H = some (.val (.int k (k.wrap (a + b))) H) := bin_int rfl
theorem zM : ibinOp P o .sub t (.int k a) (.int k b) env H = some (.val (.int k (k.wrap (a - b))) H) := bin_int rfl
theorem zN {c : Bool} {x y : Value} : ipick (.bool c) x y H = some (.val (cond c x y) H) := rfl
end

/-! ### Slices -/
theorem index_slice {t e : TypeId} {b o len cap : Nat} {sp : Option TypeId} {k : IntKind} {i : Int} (ht : P.underlying t = some (.slice e)) (hs : szT P e = some 1) (h0 : 0 ≤ i) (hi : i < (len : Int)) :
    iindexAt P t (.slice (some ⟨b, o, sp⟩) len cap) (.int k i) = some (.pointer (some ⟨b, o + i.toNat, none⟩)) := by
  unfold iindexAt
  simp only [ht, hs]
  rw [if_pos (by simp [h0, hi]), Nat.mul_one]
theorem load_one {t : TypeId} {b i : Nat} {H : IH} {v : Value} (ht : aggT P t = some false) (h : H.load b i = some v) : iloadAt P t (.pointer (some ⟨b, i, none⟩)) H = some v := by
  unfold iloadAt
  simp only [ht, h]
theorem len_slice {t e : TypeId} {a : Option Addr} {n c : Nat} {H : IH} {rest : List TypeId} (ht : P.underlying t = some (.slice e)) : ilenB P (t :: rest).toArray [.slice a n c] H = some (.val (goInt n) H) := by
  unfold ilenB
  simp [ht]
theorem call_len {o : Oper} {x : Operand} {t e : TypeId} {env : Env} {H : IH} {a : Option Addr} {n c : Nat} (ht : P.underlying t = some (.slice e)) (hx : env.val x = .slice a n c) :
    icallOp P o ⟨.builtin .len, #[x], #[t]⟩ env H = some (.val (goInt n) H) := by
  have : icall P ⟨.builtin .len, #[x], #[t]⟩ env H = some (.val (goInt n) H) := by
    show ilenB P #[t] (mapR env.val [x]) H = _
    have e1 : mapR env.val [x] = [.slice a n c] := by show [env.val x] = _; rw [hx]
    rw [e1]
    exact len_slice ht
  unfold icallOp
  rw [this]

noncomputable def enters (P : Program) (g : FuncId) : Bool := match P.funcs[g]? with
  | some fn => fn.body.isSome && (fn.name != "runtime.NumGoroutine")
  | none => false
theorem call_func {o : Oper} {f : Operand} {args : Array Operand} {ts : Array TypeId} {env : Env} {H : IH} {g : FuncId} {first captured : Array Value} (hf : env.val f = .func (.func g) first captured) (he : enters P g = true) :
    icallOp P o ⟨.value f, args, ts⟩ env H = some (.enter g (appR first.toList (appR (mapR env.val args.toList) captured.toList)) H) := by
  have : icall P ⟨.value f, args, ts⟩ env H = some (.enter g (appR first.toList (appR (mapR env.val args.toList) captured.toList)) H) := by
    unfold enters at he
    unfold icall
    simp only [hf]
    split at he
    · rename_i fn hfn
      simp only [Bool.and_eq_true] at he
      simp only [hfn, he.1, he.2, if_true]
    · cases he
  unfold icallOp
  rw [this]
end Go.Idl
namespace Go.Idl
variable {P : Program} {good : FuncId → Bool} {nat : Nats} {G : Nat → Bool} {rd : Bool}
theorem Setup.regSeq (s : Setup P good nat G) (n : Nat) {id : Nat} {ops : Array Oper} {y : Code} {env env1 : Env} {H H1 : IH} {Q : Out → Prop} (hok : opsOk G ops = true) (h : iops P (iex P good nat n) nat ops ops.toList env H = .ret (env1, H1))
    (hy : Holds P G rd y env1 H1 Q) : Holds P G rd (.seq (.region id ops false) y) env H Q :=
  Holds.seqN (Q1 := fun e h => e = env1 ∧ h = H1) (s.region n hok h ⟨rfl, rfl, rfl⟩) fun e h ⟨h1, h2⟩ => by rw [h1, h2]; exact hy

/-! ### Guards -/
noncomputable def wantN (w : Bool) : Option Value → Option Bool
  | some v => iwantV w v
  | none => none
noncomputable def wantT (w : Bool) (env : Env) : Option Tmp → Option Bool
  | some t => wantN w (nthR env t)
  | none => some false
theorem want_guard {ops : Array Oper} {d : Option Tmp} {op : Op} {ty : TypeId} {p : String} {a : Array Edge} {env : Env} {j : Nat} {w : Bool} :
    iwanted ops ⟨d, op, ty, p, a, some (j, w)⟩ env = wantT w env ((ops[j]?).bind (·.dst)) := by
  unfold iwanted wantT
  simp only
  split
  · rename_i t ht; simp only [ht]; rfl
  · rename_i ht; simp only [ht]
theorem qH {w : Bool} {env : Env} {t : Tmp} : wantT w env (some t) = wantN w (nthR env t) := rfl
theorem qJ {w b : Bool} : wantN w (some (.bool b)) = some (b == w) := rfl
theorem qK {w : Bool} : wantN w (some undef) = some false := rfl

/-- a call of a function with a contract -/
theorem enter_k {run : Job → IH → T Out} {g : FuncId} {args : List Value} {H : IH} {k : List Value → IH → Option Value} (h : nat g = some (ofK k)) : enterT run nat g args H = ofK k args H := by
  unfold enterT; rw [h]
theorem ofK_some {k : List Value → IH → Option Value} {args : List Value} {H : IH} {v : Value} (h : k args H = some v) : ofK k args H = .ret (v, H) := by unfold ofK; rw [h]
theorem callF {o : Oper} {g : FuncId} {args : Array Operand} {ts : Array TypeId} {env : Env} {H : IH} (he : enters P g = true) :
    icallOp P o ⟨.value (.func g), args, ts⟩ env H = some (.enter g (mapR env.val args.toList) H) := by
  rw [call_func (g := g) (first := #[]) (captured := #[]) rfl he]
  simp [appR_eq]
theorem zP {α β : Type} (g : α → β) : mapR g [] = [] := rfl
theorem zR {α β : Type} (g : α → β) (a : α) (l : List α) : mapR g (a :: l) = g a :: mapR g l := rfl
theorem lenC {o : Oper} {x : Operand} {t : TypeId} {env : Env} {H : IH} : icallOp P o ⟨.builtin .len, #[x], #[t]⟩ env H = (match ilenB P #[t] [env.val x] H with
    | some r => some r
    | none => idry P o env H) := rfl
theorem lenB_slice {t e : TypeId} {a : Option Addr} {n c : Nat} {H : IH} (ht : P.underlying t = some (.slice e)) : ilenB P #[t] [.slice a n c] H = some (.val (goInt n) H) := by
  unfold ilenB
  simp [ht]

theorem ires_tmp {fn : Func} {t : Tmp} {env : Env} {H : IH} {v : Value} (hr : fn.results = #[.tmp t]) (h : nthR env t = some v) : iresults P fn env H = some v := by
  unfold iresults
  rw [hr]
  simp [iresL, ires1, h, one]
end Go.Idl
namespace Go.Idl
theorem zW : (true == true) = true := rfl
theorem zX : (true == false) = false := rfl
theorem zY : (false == true) = false := rfl
theorem zZ : (false == false) = true := rfl
end Go.Idl
namespace Go.Idl
variable {P : Program} {good : FuncId → Bool} {nat : Nats} {G : Nat → Bool} {rd : Bool}
/-! ### Operations, with what the guards look at alone -/
noncomputable def dstAt (ds : List (Option Tmp)) (j : Nat) : Option Tmp := match ds[j]? with
  | some d => d
  | none => none
theorem qF {d : Option Tmp} {ds : List (Option Tmp)} : dstAt (d :: ds) 0 = d := rfl
theorem qG {d : Option Tmp} {ds : List (Option Tmp)} {j : Nat} : dstAt (d :: ds) (j + 1) = dstAt ds j := by simp [dstAt]
noncomputable def iwantedE (ds : List (Option Tmp)) (o : Oper) (env : Env) : Option Bool := match o.guard with
  | none => some true
  | some (j, w) => wantT w env (dstAt ds j)
theorem iwantedE_eq (ops : Array Oper) (o : Oper) (env : Env) : iwanted ops o env = iwantedE (ops.toList.map (·.dst)) o env := by
  obtain ⟨d, op, ty, p, a, g⟩ := o
  cases g with
  | none => rfl
  | some jw =>
    obtain ⟨j, w⟩ := jw
    rw [want_guard]
    show wantT w env _ = wantT w env _
    congr 1
    unfold dstAt
    rw [List.getElem?_map]
    have : ops.toList[j]? = ops[j]? := by simp
    rw [this]
    cases ops[j]? <;> rfl
noncomputable def iopsE (P : Program) (run : Job → IH → T Out) (nat : Nats) (ds : List (Option Tmp)) : List Oper → Env → IH → T (Env × IH)
  | [], env, H => .ret (env, H)
  | o :: l, env, H => byWant (iwantedE ds o env) ((iop1 P run nat o env H).bind fun r => iopsE P run nat ds l (env.putD o.dst r.1) r.2) (iopsE P run nat ds l (env.putD o.dst undef) H) .fail
theorem iopsE_eq {run : Job → IH → T Out} (ops : Array Oper) : ∀ (l : List Oper) (env : Env) (H : IH), iops P run nat ops l env H = iopsE P run nat (ops.toList.map (·.dst)) l env H
  | [], env, H => rfl
  | o :: l, env, H => by
    rw [iops_cons]
    unfold iopsE
    rw [iwantedE_eq, iopsE_eq ops l]
    congr 2
    funext r
    exact iopsE_eq ops l _ _
theorem qD {ds : List (Option Tmp)} {d : Option Tmp} {op : Op} {ty : TypeId} {p : String} {a : Array Edge} {env : Env} : iwantedE ds ⟨d, op, ty, p, a, none⟩ env = some true := rfl
theorem qE {ds : List (Option Tmp)} {d : Option Tmp} {op : Op} {ty : TypeId} {p : String} {a : Array Edge} {env : Env} {j : Nat} {w : Bool} : iwantedE ds ⟨d, op, ty, p, a, some (j, w)⟩ env = wantT w env (dstAt ds j) := rfl
theorem qC {run : Job → IH → T Out} {ds : List (Option Tmp)} {env : Env} {H : IH} : iopsE P run nat ds [] env H = .ret (env, H) := Eq.trans rfl rfl
/-- behind an operation -/
noncomputable def thenE (P : Program) (run : Job → IH → T Out) (nat : Nats) (ds : List (Option Tmp)) (d : Option Tmp) (l : List Oper) (env : Env) (t : T (Value × IH)) : T (Env × IH) := t.bind fun r => iopsE P run nat ds l (env.putD d r.1) r.2
/-- as it is wanted -/
noncomputable def goE (P : Program) (run : Job → IH → T Out) (nat : Nats) (ds : List (Option Tmp)) (o : Oper) (l : List Oper) (env : Env) (H : IH) (c : Option Bool) : T (Env × IH) :=
  byWant c (thenE P run nat ds o.dst l env (iop1 P run nat o env H)) (iopsE P run nat ds l (env.putD o.dst undef) H) .fail
theorem qB {run : Job → IH → T Out} {ds : List (Option Tmp)} {o : Oper} {l : List Oper} {env : Env} {H : IH} : iopsE P run nat ds (o :: l) env H = goE P run nat ds o l env H (iwantedE ds o env) := Eq.trans rfl rfl
theorem qM {run : Job → IH → T Out} {ds : List (Option Tmp)} {o : Oper} {l : List Oper} {env : Env} {H : IH} : goE P run nat ds o l env H (some true) = thenE P run nat ds o.dst l env (iop1 P run nat o env H) := Eq.trans rfl rfl
theorem qN {run : Job → IH → T Out} {ds : List (Option Tmp)} {o : Oper} {l : List Oper} {env : Env} {H : IH} : goE P run nat ds o l env H (some false) = iopsE P run nat ds l (env.putD o.dst undef) H := Eq.trans rfl rfl
theorem qP {run : Job → IH → T Out} {ds : List (Option Tmp)} {d : Option Tmp} {l : List Oper} {env : Env} {v : Value} {H : IH} : thenE P run nat ds d l env (.ret (v, H)) = iopsE P run nat ds l (env.putD d v) H := Eq.trans rfl rfl

theorem Setup.regE (s : Setup P good nat G) (n : Nat) {id : Nat} {ops : Array Oper} {y : Code} {env env1 : Env} {H H1 : IH} {Q : Out → Prop} {ds : List (Option Tmp)} (hok : opsOk G ops = true) (hds : ops.toList.map (·.dst) = ds)
    (h : iopsE P (iex P good nat n) nat ds ops.toList env H = .ret (env1, H1)) (hy : Holds P G rd y env1 H1 Q) : Holds P G rd (.seq (.region id ops false) y) env H Q :=
  s.regSeq n hok (by rw [iopsE_eq, hds]; exact h) hy
/-- a region at the end of a piece of code -/
theorem Setup.regZ (s : Setup P good nat G) (n : Nat) {id : Nat} {ops : Array Oper} {env env1 : Env} {H H1 : IH} {Q : Out → Prop} {ds : List (Option Tmp)} (hok : opsOk G ops = true) (hds : ops.toList.map (·.dst) = ds)
    (h : iopsE P (iex P good nat n) nat ds ops.toList env H = .ret (env1, H1)) (hq : Q ⟨.normal, env1, H1⟩) : Holds P G rd (.region id ops false) env H Q :=
  s.region n hok (by rw [iopsE_eq, hds]; exact h) hq
end Go.Idl

namespace Go.Idl
variable {P : Program} {good : FuncId → Bool} {nat : Nats} {G : Nat → Bool} {rd : Bool}

/-- it goes on, or returns -/
def NR (R : Env → IH → Prop) (Q : Out → Prop) (o : Out) : Prop := (o.e = .normal ∧ R o.env o.H) ∨ (o.e = .ret ∧ Q o)
/-- a round of a loop: on, out of it, or returns -/
def LO (I : Nat → Env → IH → Prop) (n : Nat) (id : Nat) (R : Env → IH → Prop) (Q : Out → Prop) (o : Out) : Prop :=
  (o.e = .normal ∧ ∃ m, m < n ∧ I m o.env o.H) ∨ (o.e = .exit id ∧ R o.env o.H) ∨ (o.e = .ret ∧ Q o)

theorem Holds.seqX {x y : Code} {env : Env} {H : IH} {R1 : Env → IH → Prop} {Q1 Q : Out → Prop} (hx : Holds P G rd x env H (NR R1 Q1)) (hr : ∀ o, o.e = .ret → Q1 o → Q o) (hy : ∀ e h, R1 e h → Holds P G rd y e h Q) : Holds P G rd (.seq x y) env H Q := by
  refine .seqQ hx (fun o ho hn => ?_) (fun o ho hn => ?_)
  · rcases ho with ⟨_, h⟩ | ⟨h, _⟩
    · exact hy _ _ h
    · rw [h] at hn; cases hn
  · rcases ho with ⟨h, _⟩ | ⟨h, h2⟩
    · exact absurd h hn
    · exact hr o h h2

theorem Holds.blockR {id : Nat} {x : Code} {env : Env} {H : IH} {R : Env → IH → Prop} {Q : Out → Prop} (hx : Holds P G rd x env H (NR R Q)) : Holds P G rd (.block id x) env H (NR R Q) := by
  refine .block (hx.mono fun o ho => ?_)
  unfold blockQ
  rcases ho with ⟨h, h2⟩ | ⟨h, h2⟩
  · rw [h]; exact .inl ⟨h, h2⟩
  · rw [h]; exact .inr ⟨h, h2⟩

theorem Holds.forR {id : Nat} {x : Code} {env : Env} {H : IH} {R : Env → IH → Prop} {Q : Out → Prop} (I : Nat → Env → IH → Prop) {n : Nat} (h : I n env H) (hx : ∀ n env H, I n env H → Holds P G rd x env H (LO I n id R Q)) :
    Holds P G rd (.block id (.loop x)) env H (NR R Q) := by
  refine .block (.loop I (fun n env H hi => (hx n env H hi).mono fun o ho => ?_) h)
  rcases ho with ⟨h, h2⟩ | ⟨h, h2⟩ | ⟨h, h2⟩
  · rw [h]; exact h2
  · rw [h]
    unfold blockQ
    rw [h]
    simp only [if_true]
    exact .inl ⟨rfl, h2⟩
  · rw [h]
    unfold blockQ
    rw [h]
    exact .inr ⟨h, h2⟩

/-- 'if c { .. return }' -/
theorem Setup.ifRet (s : Setup P good nat G) (n : Nat) {id : Nat} {ops : Array Oper} {v : Operand} {x y : Code} {env env1 : Env} {H H1 : IH} {Q : Out → Prop} {ds : List (Option Tmp)} {t : Bool} (hok : opsOk G ops = true) (hds : ops.toList.map (·.dst) = ds)
    (h : iopsE P (iex P good nat n) nat ds ops.toList env H = .ret (env1, H1)) (hokv : opdOk G v = true) (hv : env1.val v = .bool t)
    (hx : t = true → Holds P G rd x env1 H1 fun o => o.e = .ret ∧ Q o) (hy : t = false → Holds P G rd y env1 H1 Q) : Holds P G rd (.seq (.seq (.region id ops false) (.cond v x .skip)) y) env H Q := by
  refine .seqX (R1 := fun e h => t = false ∧ e = env1 ∧ h = H1) (Q1 := Q) (s.regE n hok hds h (.cond hokv hv (fun ht => (hx ht).mono fun o ho => .inr ho) fun ht => .skip (.inl ⟨rfl, ht, rfl, rfl⟩))) (fun _ _ h => h) ?_
  rintro e h ⟨ht, rfl, rfl⟩
  exact hy ht
/-- the same at the end of a block -/
theorem Setup.ifEnd (s : Setup P good nat G) (n : Nat) {id : Nat} {ops : Array Oper} {v : Operand} {x : Code} {env env1 : Env} {H H1 : IH} {Q : Out → Prop} {ds : List (Option Tmp)} {t : Bool} (hok : opsOk G ops = true) (hds : ops.toList.map (·.dst) = ds)
    (h : iopsE P (iex P good nat n) nat ds ops.toList env H = .ret (env1, H1)) (hokv : opdOk G v = true) (hv : env1.val v = .bool t)
    (hx : t = true → Holds P G rd x env1 H1 Q) (hy : t = false → Q ⟨.normal, env1, H1⟩) : Holds P G rd (.seq (.region id ops false) (.cond v x .skip)) env H Q :=
  s.regE n hok hds h (.cond hokv hv hx fun ht => .skip (hy ht))
/-- a loop's head: 'region; if c {} else exit; rest' -/
theorem Setup.head1 (s : Setup P good nat G) (n : Nat) {id ex : Nat} {ops : Array Oper} {v : Operand} {y : Code} {env env1 : Env} {H H1 : IH} {Q : Out → Prop} {ds : List (Option Tmp)} {t : Bool} (hok : opsOk G ops = true) (hds : ops.toList.map (·.dst) = ds)
    (h : iopsE P (iex P good nat n) nat ds ops.toList env H = .ret (env1, H1)) (hokv : opdOk G v = true) (hv : env1.val v = .bool t)
    (hy : t = true → Holds P G rd y env1 H1 Q) (hx : t = false → Q ⟨.exit ex, env1, H1⟩) : Holds P G rd (.seq (.region id ops false) (.seq (.cond v .skip (.exit ex)) y)) env H Q := by
  refine s.regE n hok hds h ?_
  refine .seqQ (Q1 := fun o => (o = ⟨.normal, env1, H1⟩ ∧ t = true) ∨ (o = ⟨.exit ex, env1, H1⟩ ∧ t = false)) (.cond hokv hv (fun ht => .skip (.inl ⟨rfl, ht⟩)) fun ht => .exit (.inr ⟨rfl, ht⟩)) ?_ ?_
  · rintro o (⟨rfl, ht⟩ | ⟨rfl, ht⟩) hn
    · exact hy ht
    · cases hn
  · rintro o (⟨rfl, ht⟩ | ⟨rfl, ht⟩) hn
    · exact absurd rfl hn
    · exact hx ht
theorem Setup.head2 (s : Setup P good nat G) (n : Nat) {id ex : Nat} {ops : Array Oper} {v : Operand} {y : Code} {env env1 : Env} {H H1 : IH} {Q : Out → Prop} {ds : List (Option Tmp)} {t : Bool} (hok : opsOk G ops = true) (hds : ops.toList.map (·.dst) = ds)
    (h : iopsE P (iex P good nat n) nat ds ops.toList env H = .ret (env1, H1)) (hokv : opdOk G v = true) (hv : env1.val v = .bool t)
    (hy : t = true → Holds P G rd y env1 H1 Q) (hx : t = false → Q ⟨.exit ex, env1, H1⟩) : Holds P G rd (.seq (.seq (.region id ops false) (.cond v .skip (.exit ex))) y) env H Q := by
  refine .seqQ (Q1 := fun o => (o = ⟨.normal, env1, H1⟩ ∧ t = true) ∨ (o = ⟨.exit ex, env1, H1⟩ ∧ t = false)) (s.regE n hok hds h (.cond hokv hv (fun ht => .skip (.inl ⟨rfl, ht⟩)) fun ht => .exit (.inr ⟨rfl, ht⟩))) ?_ ?_
  · rintro o (⟨rfl, ht⟩ | ⟨rfl, ht⟩) hn
    · exact hy ht
    · cases hn
  · rintro o (⟨rfl, ht⟩ | ⟨rfl, ht⟩) hn
    · exact absurd rfl hn
    · exact hx ht

/-! ### Lists of integers in memory -/
noncomputable def intsAt (H : IH) (b : Nat) : Nat → Nat → Option (List Int)
  | _, 0 => some []
  | o, n + 1 => match H.load b o with
    | some (.int .i64 i) => (intsAt H b (o + 1) n).map (i :: ·)
    | _ => none
noncomputable def intsOf (H : IH) (v : Value) : Option (List Int) := match v with
  | .slice none 0 _ => some []
  | .slice (some a) n _ => if n ≤ 1000 ∧ a.block < H.size then intsAt H a.block a.off n else none
  | _ => none
theorem intsAt_get {H : IH} {b : Nat} : ∀ (n o : Nat) (zs : List Int), intsAt H b o n = some zs → zs.length = n ∧ ∀ (i : Nat) z, zs[i]? = some z → H.load b (o + i) = some (.int .i64 z)
  | 0, o, zs, h => by
    simp only [intsAt, Option.some.injEq] at h
    subst h
    exact ⟨rfl, fun i z h => by simp at h⟩
  | n + 1, o, zs, h => by
    unfold intsAt at h
    split at h
    · rename_i j hj
      obtain ⟨r, hr, rfl⟩ := Option.map_eq_some_iff.1 h
      obtain ⟨h1, h2⟩ := intsAt_get n (o + 1) r hr
      refine ⟨by simp [h1], fun i z hi => ?_⟩
      cases i with
      | zero => simp only [List.getElem?_cons_zero, Option.some.injEq] at hi; subst hi; exact hj
      | succ i => have := h2 i z (by simpa using hi); rwa [show o + (i + 1) = o + 1 + i by omega]
    · cases h
/-- a list of integers, and where it lies -/
theorem intsOf_inv {H : IH} {v : Value} {zs : List Int} (h : intsOf H v = some zs) : ∃ a c, v = .slice a zs.length c ∧ zs.length ≤ 1000 ∧ ∀ (i : Nat) z, zs[i]? = some z → ∃ b o sp, a = some ⟨b, o, sp⟩ ∧ H.load b (o + i) = some (.int .i64 z) := by
  unfold intsOf at h
  split at h
  · cases h
    exact ⟨none, _, rfl, by simp, fun i z hi => by simp at hi⟩
  · rename_i a n c
    split at h
    · rename_i hn
      obtain ⟨hn, _⟩ := hn
      obtain ⟨h1, h2⟩ := intsAt_get n a.off zs h
      refine ⟨some a, c, by rw [h1], by omega, fun i z hi => ⟨a.block, a.off, a.spot, rfl, h2 i z hi⟩⟩
    · cases h
  · cases h

theorem wrap_id {n : Int} (h0 : -9223372036854775808 ≤ n) (h1 : n ≤ 9223372036854775807) : IntKind.i64.wrap n = n := by
  have hb : IntKind.i64.bits = 64 := rfl
  have hs : IntKind.i64.signed = true := rfl
  unfold IntKind.wrap
  simp only [hb, hs, Bool.true_and]
  split
  · rename_i h; simp only [decide_eq_true_eq] at h; omega
  · rename_i h; simp only [decide_eq_true_eq] at h; omega
end Go.Idl
namespace Go.Idl
theorem wrap_succ {i n : Nat} (h : i < n) (hn : n ≤ 1000) : IntKind.i64.wrap ((i : Int) + 1) = ((i + 1 : Nat) : Int) := by
  rw [wrap_id (by omega) (by omega)]; rfl
end Go.Idl
namespace Go.Idl
variable {P : Program}
/-! ### Operations that the model's own run does -/
noncomputable def dryUn (P : Program) (op : UnOp) (v : Value) (H : IH) : Option Step1 := idry P ⟨none, .unOp op 0 (.const v), 0, "", #[], none⟩ [] H
theorem zS {op : UnOp} {t : TypeId} {x : Operand} {d : Option Tmp} {ty : TypeId} {p : String} {a : Array Edge} {g : Option (Nat × Bool)} {env : Env} {H : IH} : idry P ⟨d, .unOp op t x, ty, p, a, g⟩ env H = dryUn P op (env.val x) H := rfl
theorem zT {n : Int} {H : IH} : dryUn P .neg (.int .i64 n) H = some (.val (.int .i64 (IntKind.i64.wrap (0 - n))) H) := rfl
theorem zV {b : Bool} {H : IH} : dryUn P .not (.bool b) H = some (.val (.bool !b) H) := rfl
end Go.Idl

namespace Go.Idl
theorem load_old {H H' : IH} (h : Old H H') {b i : Nat} {v : Value} (hb : b < H.size) (hl : H.load b i = some v) : H'.load b i = some v := by
  unfold IH.load at hl ⊢
  rw [h.get b hb]
  exact hl
theorem intsAt_old {H H' : IH} (h : Old H H') {b : Nat} (hb : b < H.size) : ∀ (n o : Nat), intsAt H' b o n = intsAt H b o n
  | 0, _ => rfl
  | n + 1, o => by
    unfold intsAt
    have : H'.load b o = H.load b o := by unfold IH.load; rw [h.get b hb]
    rw [this]
    split
    · rw [intsAt_old h hb n (o + 1)]
    · rfl
theorem intsOf_old {H H' : IH} (h : Old H H') {v : Value} {zs : List Int} (hz : intsOf H v = some zs) : intsOf H' v = some zs := by
  unfold intsOf at hz ⊢
  split at hz
  · exact hz
  · split at hz
    · rename_i hn
      obtain ⟨h1, h2⟩ := hn
      rw [if_pos ⟨h1, Nat.lt_of_lt_of_le h2 h.size⟩, intsAt_old h h2]
      exact hz
    · cases hz
  · cases hz
/-- a new row of integers -/
theorem intsAt_new {H : IH} {el : TypeId} : ∀ (zs : List Int) (pre : List Value), intsAt (H.push (.cells (pre ++ zs.map (Value.int .i64)).toArray el)) H.size pre.length zs.length = some zs
  | [], pre => rfl
  | z :: zs, pre => by
    simp only [List.length_cons, List.map_cons]
    unfold intsAt
    have hl : (H.push (.cells (pre ++ Value.int .i64 z :: zs.map (Value.int .i64)).toArray el)).load H.size pre.length = some (.int .i64 z) := by
      unfold IH.load
      rw [IH.get_push, if_pos rfl]
      simp
    rw [hl]
    have := intsAt_new (H := H) (el := el) zs (pre ++ [Value.int .i64 z])
    simp only [List.append_assoc, List.singleton_append, List.length_append, List.length_singleton] at this
    simp only [this, Option.map_some]
theorem intsOf_new {H : IH} {el : TypeId} (zs : List Int) (c : Nat) (h : zs.length ≤ 1000) : intsOf (H.push (.cells (zs.map (Value.int .i64)).toArray el)) (.slice (some ⟨H.size, 0, none⟩) zs.length c) = some zs := by
  unfold intsOf
  simp only
  rw [if_pos ⟨h, by simp⟩]
  exact intsAt_new zs []
theorem box_int {elem : TypeId} {k : IntKind} {n : Int} {H : IH} : ibox elem (.int k n) H = some (.val (.pointer (some ⟨H.size, 0, none⟩)) (H.push (.cells #[.int k n] elem))) := rfl
end Go.Idl

namespace Go.Idl
variable {P : Program} {good : FuncId → Bool} {nat : Nats} {G : Nat → Bool} {rd : Bool}

/-- contracts that leave memory as it is -/
def NatPure (nat : Nats) : Prop := ∀ g k, nat g = some k → ∀ args H r, k args H = .ret r → r.2 = H
theorem noNat_pure : NatPure noNat := by intro g k h; cases h
theorem addNat_pure {g : FuncId} {k : List Value → IH → Option Value} (h : NatPure nat) : NatPure (addNat nat g k) := by
  intro x y hx args H r hr
  unfold addNat at hx
  cases hb : Nat.beq x g with
  | false => rw [hb] at hx; exact h x y hx args H r hr
  | true =>
    rw [hb] at hx
    cases hx
    unfold ofK at hr
    split at hr
    · cases hr; rfl
    · cases hr

def calm (o : Oper) : Bool := match clsOf o with
  | .pure | .read | .call => true
  | _ => false

theorem calm_keep (hp : NatPure nat) {o : Oper} {env : Env} {H : IH} {r : Value × IH} (hc : calm o = true) (h : iop1 P (iex P good nat 0) nat o env H = .ret r) : r.2 = H := by
  have key : ∀ s, iop P o env H = some s → (∃ v, s = .val v H) ∨ (∃ g args, s = .enter g args H) ∨ ∃ l args, s = .round l args H := by
    intro s hs
    unfold calm at hc
    cases hcl : clsOf o with
    | pure => obtain ⟨v, h1, _⟩ := pure_loose hcl H s hs; exact .inl ⟨v, h1⟩
    | read => exact .inl (read_keep hcl hs)
    | call =>
      have : ∃ f args ts, o.op = .call ⟨.value f, args, ts⟩ := by
        unfold clsOf at hcl
        split at hcl <;> (try cases hcl)
        · split at hcl <;> cases hcl
        · rename_i c hoc
          split at hcl <;> (try cases hcl)
          rename_i f hf
          obtain ⟨callee, args, ts⟩ := c
          cases hf
          exact ⟨f, args, ts, hoc⟩
      obtain ⟨f, args, ts, ho⟩ := this
      unfold iop at hs
      rw [ho] at hs
      simp only [icallOp] at hs
      split at hs
      · rename_i q hq
        cases hs
        unfold icall at hq
        simp only at hq
        split at hq
        · split at hq
          · split at hq
            · split at hq
              · cases hq; exact .inr (.inl ⟨_, _, rfl⟩)
              · cases hq
            · split at hq
              · split at hq
                · cases hq; exact .inl ⟨_, rfl⟩
                · cases hq
              · cases hq
          · cases hq
        · split at hq
          · cases hq; exact .inr (.inr ⟨_, _, rfl⟩)
          · cases hq
        · cases hq
      · obtain ⟨v, h1, _⟩ := Loose.dry o env H s hs; exact .inl ⟨v, h1⟩
    | alloc => rw [hcl] at hc; cases hc
    | fresh => rw [hcl] at hc; cases hc
    | write => rw [hcl] at hc; cases hc
  unfold iop1 at h
  cases hs : iop P o env H with
  | none => rw [hs] at h; cases h
  | some s =>
    rw [hs] at h
    rcases key s hs with ⟨v, rfl⟩ | ⟨g, args, rfl⟩ | ⟨l, args, rfl⟩
    · cases h; rfl
    · have h' : enterT (iex P good nat 0) nat g args H = .ret r := h
      unfold enterT at h'
      split at h'
      · rename_i k hk; exact hp g k hk args H r h'
      · cases h'
    · cases h

/-- what the run with records came to, out of the run without -/
structure DE (P : Program) (lo : List (Nat × Nat × Nat)) (l : List Oper) (i k : Nat) (env : Env) (H : IH) (eF : Env) (HF : IH) (hs : List IH) (rs : List Rec) : Prop where
  heaps : ∀ m, m ≤ cntE (l.take k) → (H :: hs)[m]? = some H
  recs : ∀ r ∈ rs, ∃ j p, r.i = i + j ∧ l[j]? = some r.o ∧ findL r.i lo = some p ∧ (j < k → clsOf r.o = .read → iop P r.o r.env H = some (.val r.v H)) ∧
    (∀ d, r.o.dst = some d → d < env.length → ¬ writes l (fun k' => j < k') d → eF.at d = r.v)

theorem de_of (hp : NatPure nat) {ops : Array Oper} {lo : List (Nat × Nat × Nat)} : ∀ (l : List Oper) (i k : Nat) (env : Env) (H : IH) (eF : Env) (HF : IH), (∀ o ∈ l, isAlloc o = false) → (∀ o ∈ l.take k, calm o = true) →
    iopsE P (iex P good nat 0) nat (ops.toList.map (·.dst)) l env H = .ret (eF, HF) → ∃ hs rs, iopsD P (iex P good nat 0) nat ops lo l i env H = some (eF, HF, hs, rs) ∧ DE P lo l i k env H eF HF hs rs
  | [], i, k, env, H, eF, HF, _, _, h => by
    have h' : (T.ret (env, H) : T (Env × IH)) = .ret (eF, HF) := h
    cases h'
    refine ⟨[], [], rfl, ⟨fun m hm => ?_, fun r hr => by cases hr⟩⟩
    simp [cntE] at hm
    subst hm; rfl
  | o :: l, i, k, env, H, eF, HF, ha, hc, h => by
    have hao := ha o List.mem_cons_self
    rw [iopsD_cons, hao]
    simp only [cond_false]
    rw [qB, ← iwantedE_eq] at h
    unfold goE byWant at h
    have hcl : ∀ o' ∈ l.take (k - 1), calm o' = true := by
      intro o' ho'
      cases k with
      | zero => simp at ho'
      | succ k => exact hc o' (by rw [List.take_succ_cons]; exact List.mem_cons_of_mem _ (by simpa using ho'))
    have hal : ∀ o' ∈ l, isAlloc o' = false := fun o' ho' => ha o' (List.mem_cons_of_mem _ ho')
    have lift : ∀ (v : Value) (H' : IH) (hs : List IH) (rs rs' : List Rec), DE P lo l (i + 1) (k - 1) (env.putD o.dst v) H' eF HF hs rs → (0 < k → H' = H) →
        (∀ r ∈ rs', r ∈ rs ∨ (r.i = i ∧ r.o = o ∧ r.env = env ∧ r.v = v ∧ (∃ p, findL i lo = some p) ∧ (0 < k → clsOf o = .read → iop P o env H = some (.val v H)) ∧ (∀ d, o.dst = some d → d < env.length → ¬ writes l (fun _ => True) d → eF.at d = v))) →
        DE P lo (o :: l) i k env H eF HF (consIf (clsOf o).eff H' hs) rs' := by
      intro v H' hs rs rs' de hH hr
      refine ⟨fun m hm => ?_, fun r hr' => ?_⟩
      · cases k with
        | zero => simp [cntE] at hm; subst hm; rfl
        | succ k =>
          have hH' := hH (by omega)
          subst hH'
          rw [List.take_succ_cons, cntE_cons] at hm
          simp only [Nat.add_sub_cancel] at de
          by_cases he : isEff o = true
          · have he' : (clsOf o).eff = true := he
            rw [he']
            cases m with
            | zero => rfl
            | succ m =>
              rw [if_pos he] at hm
              exact de.heaps m (by omega)
          · have he' : (clsOf o).eff = false := by simpa [isEff] using he
            rw [he']
            rw [if_neg he] at hm
            exact de.heaps m (by omega)
      · rcases hr r hr' with h1 | ⟨h1, h2, h3, h4, ⟨p, h5⟩, h6, h7⟩
        · obtain ⟨j, p, g1, g2, g3, g4, g5⟩ := de.recs r h1
          refine ⟨j + 1, p, by omega, by simpa using g2, g3, fun hj hcl => ?_, fun d hd hl hn => g5 d hd (by rw [length_putD]; exact hl) ?_⟩
          · have hH' := hH (by omega)
            rw [← hH']
            exact g4 (by omega) hcl
          · rintro ⟨k', p', q1, q2, q3, q4⟩
            exact hn ⟨k' + 1, p', by omega, by simpa using q2, q3, q4⟩
        · refine ⟨0, p, by omega, by simp [h2], by rw [h1]; exact h5, fun hj hcl => ?_, fun d hd hl hn => ?_⟩
          · rw [h2, h3, h4]
            exact h6 (by omega) (by rw [← h2]; exact hcl)
          · rw [h4]
            refine h7 d (by rw [← h2]; exact hd) hl ?_
            rintro ⟨k', p', _, q2, q3, q4⟩
            exact hn ⟨k' + 1, p', by omega, by simpa using q2, q3, q4⟩
    split at h
    · rename_i hw
      rw [hw]
      cases ht : iop1 P (iex P good nat 0) nat o env H with
      | fail => rw [ht] at h; cases h
      | ch n k => rw [ht] at h; cases h
      | sp p k => rw [ht] at h; cases h
      | ret q =>
        rw [ht] at h
        have h2 : iopsE P (iex P good nat 0) nat (ops.toList.map (·.dst)) l (env.putD o.dst q.1) q.2 = .ret (eF, HF) := h
        obtain ⟨hs, rs, e1, e2⟩ := de_of hp l (i + 1) (k - 1) _ _ eF HF hal hcl h2
        have htr := iopsD_trace l _ _ _ _ _ _ _ e1
        refine ⟨consIf (clsOf o).eff q.2 hs, recIf (findL i lo) i o env q.1 rs, by simp only [byWant, thenD, Out1, consD, e1], lift q.1 q.2 hs rs _ e2 ?_ ?_⟩
        · intro hk
          cases k with
          | zero => omega
          | succ k => exact calm_keep hp (hc o (by rw [List.take_succ_cons]; exact List.mem_cons_self)) ht
        · intro r hr
          unfold recIf at hr
          split at hr
          · rename_i p hp'
            rcases List.mem_cons.1 hr with rfl | hr
            · refine .inr ⟨rfl, rfl, rfl, rfl, ⟨p, hp'⟩, fun hk hrd => ?_, fun d hd hl hn => ?_⟩
              · have hne : isEff o = false := by unfold isEff; rw [hrd]; rfl
                obtain ⟨g1, g2⟩ := iop1_calm hne hao ht
                exact g2
              · rw [htr.keep d hn, hd, at_putD_eq hl]
            · exact .inl hr
          · exact .inl hr
    · rename_i hw
      rw [hw]
      obtain ⟨hs, rs, e1, e2⟩ := de_of hp l (i + 1) (k - 1) _ _ eF HF hal hcl h
      exact ⟨consIf (clsOf o).eff H hs, rs, by simp only [byWant, consS, e1], lift undef H hs rs _ e2 (fun _ => rfl) fun r hr => .inl hr⟩
    · cases h

/-- values that are told apart -/
def simple : Value → Bool
  | .int _ _ => true
  | .bool _ => true
  | .slice _ _ _ => true
  | .pointer _ => true
  | .map _ => true
  | _ => false
theorem veq_simple {v : Value} (h : simple v = true) : veq v v = true := by
  cases v <;> first | cases h | skip
  case bool b => cases b <;> rfl
  case int k n => show (k == k && n == n) = true; simp
  case pointer a => show (a == a) = true; simp
  case map a => show (a == a) = true; simp
  case slice a l c => show (a == a && (l == l && c == c)) = true; simp

noncomputable def dstOf (ops : Array Oper) (i : Nat) : Tmp := ((ops[i]?).bind (·.dst)).getD 0
/-- the reads that are loose: early, and of values that are told apart -/
def looseEarly (lo : List (Nat × Nat × Nat)) (k n : Nat) : Bool := lo.all fun p => decide (p.1 < k) && decide (p.2.2 ≤ n)

theorem findL_mem {i : Nat} {p : Nat × Nat} : ∀ (l : List (Nat × Nat × Nat)), findL i l = some p → (i, p) ∈ l
  | [], h => by cases h
  | a :: l, h => by
    have hdef : findL i (a :: l) = cond (Nat.beq a.1 i) (some a.2) (findL i l) := rfl
    rw [hdef] at h
    cases hb : Nat.beq a.1 i with
    | true =>
      rw [hb] at h
      cases h
      have := Nat.eq_of_beq_eq_true hb
      rw [← this]
      exact List.mem_cons_self
    | false => rw [hb] at h; exact List.mem_cons_of_mem _ (findL_mem l h)
theorem loose_read {ops : Array Oper} {i : Nat} {p : Nat × Nat} (h : (i, p) ∈ loose ops) {o : Oper} (ho : ops[i]? = some o) : clsOf o = .read := by
  unfold loose looseOf at h
  rw [List.mem_filterMap] at h
  obtain ⟨⟨q, k⟩, hq, ha⟩ := h
  simp only at ha
  split at ha
  · cases ha
  · cases ha
    obtain ⟨h1, h2⟩ := List.mem_filter.1 hq
    have h3 : ops[i]? = some q := by have := mem_zip.1 h1; simpa using this
    rw [ho] at h3
    cases h3
    simpa using h2

theorem stable_of {lo hi : Nat} {r : Rec} : ∀ (hs : List IH) (m : Nat), (∀ k E, hs[k]? = some E → lo ≤ m + k → m + k ≤ hi → sameVal r.v (iop P r.o r.env E) = true) → stableFrom P lo hi r hs m = true
  | [], _, _ => rfl
  | h :: hs, m, hst => by
    have hdef : stableFrom P lo hi r (h :: hs) m = cond (Nat.ble lo m && Nat.ble m hi) (cond (sameVal r.v (iop P r.o r.env h)) (stableFrom P lo hi r hs (m + 1)) false) (stableFrom P lo hi r hs (m + 1)) := rfl
    have ih : stableFrom P lo hi r hs (m + 1) = true := stable_of hs (m + 1) fun k E hk h1 h2 => hst (k + 1) E (by simpa using hk) (by omega) (by omega)
    rw [hdef, ih]
    cases hc : (Nat.ble lo m && Nat.ble m hi) with
    | false => rfl
    | true =>
      simp only [Bool.and_eq_true] at hc
      rw [hst 0 h rfl (Nat.le_of_ble_eq_true hc.1) (Nat.le_of_ble_eq_true hc.2)]
      rfl

theorem iopsA_none : ∀ (l : List Oper) (env : Env) (H : IH), (∀ o ∈ l, isAlloc o = false) → iopsA P l env H = some (env, H)
  | [], _, _, _ => rfl
  | o :: l, env, H, h => by
    unfold iopsA
    rw [h o List.mem_cons_self]
    exact iopsA_none l env H fun o' ho' => h o' (List.mem_cons_of_mem _ ho')

theorem idraw_of (hp : NatPure nat) {ops : Array Oper} {env env1 : Env} {H H1 : IH} (k : Nat) (hd : drawOk ops = true) (ha : (ops.toList.all fun o => !isAlloc o) = true) (hc : ((ops.toList.take k).all calm) = true)
    (hl : looseEarly (loose ops) k (cntE (ops.toList.take k)) = true) (hlen : ∀ p ∈ loose ops, dstOf ops p.1 < env.length ∧ ((ops[p.1]?).bind (·.dst)).isSome = true) (hs : ∀ p ∈ loose ops, simple (env1.at (dstOf ops p.1)) = true)
    (h : iopsE P (iex P good nat 0) nat (ops.toList.map (·.dst)) ops.toList env H = .ret (env1, H1)) : idraw P (iex P good nat 0) nat ops env H = some (env1, H1) := by
  have ha' : ∀ o ∈ ops.toList, isAlloc o = false := fun o ho => by have := List.all_eq_true.1 ha o ho; simpa using this
  obtain ⟨hs', rs, e1, e2⟩ := de_of (lo := loose ops) hp ops.toList 0 k env H env1 H1 ha' (fun o ho => List.all_eq_true.1 hc o ho) h
  unfold idraw
  rw [iopsA_none _ _ _ ha']
  simp only [e1, drawEnd]
  have hal : allocs ops = [] := by
    unfold allocs allocsOf
    have : (ops.toList.zipIdx.filter fun p => isAlloc p.1) = [] := by
      rw [List.filter_eq_nil_iff]
      intro p hp'
      have h1 : ops.toList[p.2]? = some p.1 := mem_zip.1 (show (p.1, p.2) ∈ ops.toList.zipIdx from hp')
      rw [ha' p.1 (List.mem_of_getElem? h1)]
      simp
    rw [this]; rfl
  have hst : allR (stableAt P (loose ops) (H :: hs')) rs = true := by
    rw [allR_iff]
    intro r hr
    obtain ⟨j, p, h1, h2, h3, h4, h5⟩ := e2.recs r hr
    have hm := findL_mem _ h3
    have hle := List.all_eq_true.1 hl _ hm
    simp only [Bool.and_eq_true, decide_eq_true_eq] at hle
    have hj : r.i = j := by omega
    have hoj : ops[r.i]? = some r.o := by rw [hj]; simpa using h2
    have hrd := loose_read hm hoj
    have hv := h4 (by omega) hrd
    unfold stableAt
    simp only [h3]
    refine stable_of _ 0 fun q E hq hq1 hq2 => ?_
    have hE := e2.heaps q (by omega)
    rw [hq] at hE
    cases hE
    rw [hv]
    have hsm := hs _ hm
    obtain ⟨hlt, hsome⟩ := hlen _ hm
    simp only [hoj, Option.bind_some] at hsome
    obtain ⟨d, hdd⟩ := Option.isSome_iff_exists.1 hsome
    have hdst : dstOf ops r.i = d := by unfold dstOf; rw [hoj]; simp [hdd]
    simp only [hdst] at hlt hsm
    have hst := stat_of hd
    have heq := h5 d hdd hlt (by
      rintro ⟨k', p', q1, q2, q3, q4⟩
      exact hst.dst j k' r.o p' d (by omega) (by rw [← hj]; exact hoj) (by simpa using q2) hdd q4)
    show veq r.v r.v = true
    rw [← heq]
    exact veq_simple hsm
  rw [hst, hal]
  rfl

theorem Setup.drawE (s : Setup P good nat G) (hp : NatPure nat) (k : Nat) {id : Nat} {ops : Array Oper} {y : Code} {env env1 : Env} {H H1 : IH} {Q : Out → Prop} {ds : List (Option Tmp)} {lo : List (Nat × Nat × Nat)} (hok : opsOk G ops = true) (hd : drawOk ops = true)
    (ha : (ops.toList.all fun o => !isAlloc o) = true) (hc : ((ops.toList.take k).all calm) = true) (hlo : loose ops = lo) (hl : looseEarly lo k (cntE (ops.toList.take k)) = true)
    (hlen : lo.all (fun p => ((ops[p.1]?).bind (·.dst)).isSome) = true) (hds : ops.toList.map (·.dst) = ds)
    (h : iopsE P (iex P good nat 0) nat ds ops.toList env H = .ret (env1, H1)) (hs : (lo.all fun p => Nat.blt (dstOf ops p.1) env.length && simple (env1.at (dstOf ops p.1))) = true) (hy : Holds P G rd y env1 H1 Q) : Holds P G rd (.seq (.region id ops true) y) env H Q := by
  subst hds hlo
  have hs' : ∀ p ∈ loose ops, dstOf ops p.1 < env.length ∧ simple (env1.at (dstOf ops p.1)) = true := fun p hp' => by
    have := List.all_eq_true.1 hs p hp'
    simp only [Bool.and_eq_true] at this
    exact ⟨Nat.le_of_ble_eq_true this.1, this.2⟩
  have hi := idraw_of hp k hd ha hc hl (fun p hp' => ⟨(hs' p hp').1, List.all_eq_true.1 hlen p hp'⟩) (fun p hp' => (hs' p hp').2) h
  exact Holds.seqN (Q1 := fun e h => e = env1 ∧ h = H1) (s.draw 0 hok hd hi ⟨rfl, rfl, rfl⟩) fun e h ⟨h1, h2⟩ => by rw [h1, h2]; exact hy
end Go.Idl
namespace Go.Idl
variable {P : Program} {good : FuncId → Bool} {nat : Nats} {G : Nat → Bool} {rd : Bool}
/-- 'if c { .. return }', its test a region that draws its order -/
theorem Setup.drawIf (s : Setup P good nat G) (hp : NatPure nat) (k : Nat) {id : Nat} {ops : Array Oper} {v : Operand} {x y : Code} {env env1 : Env} {H H1 : IH} {Q : Out → Prop} {ds : List (Option Tmp)} {lo : List (Nat × Nat × Nat)} {t : Bool} (hok : opsOk G ops = true) (hd : drawOk ops = true)
    (ha : (ops.toList.all fun o => !isAlloc o) = true) (hc : ((ops.toList.take k).all calm) = true) (hlo : loose ops = lo) (hl : looseEarly lo k (cntE (ops.toList.take k)) = true)
    (hlen : lo.all (fun p => ((ops[p.1]?).bind (·.dst)).isSome) = true) (hds : ops.toList.map (·.dst) = ds)
    (h : iopsE P (iex P good nat 0) nat ds ops.toList env H = .ret (env1, H1)) (hs : (lo.all fun p => Nat.blt (dstOf ops p.1) env.length && simple (env1.at (dstOf ops p.1))) = true) (hokv : opdOk G v = true) (hv : env1.val v = .bool t)
    (hx : t = true → Holds P G rd x env1 H1 fun o => o.e = .ret ∧ Q o) (hy : t = false → Holds P G rd y env1 H1 Q) : Holds P G rd (.seq (.seq (.region id ops true) (.cond v x .skip)) y) env H Q := by
  refine .seqX (R1 := fun e h => t = false ∧ e = env1 ∧ h = H1) (Q1 := Q) (s.drawE hp k hok hd ha hc hlo hl hlen hds h hs (.cond hokv hv (fun ht => (hx ht).mono fun o ho => .inr ho) fun ht => .skip (.inl ⟨rfl, ht, rfl, rfl⟩))) (fun _ _ h => h) ?_
  rintro e h ⟨ht, rfl, rfl⟩
  exact hy ht
end Go.Idl

namespace Go.Idl
noncomputable def rowsAt (H : IH) (b : Nat) : Nat → Nat → Option (List (Value × List Int))
  | _, 0 => some []
  | o, n + 1 => match H.load b o with
    | some v => (match intsOf H v with
      | some zs => (rowsAt H b (o + 1) n).map ((v, zs) :: ·)
      | none => none)
    | none => none
noncomputable def picOf (H : IH) (v : Value) : Option (List (Value × List Int)) := match v with
  | .slice none 0 _ => some []
  | .slice (some a) n _ => if n ≤ 1000 ∧ a.block < H.size then rowsAt H a.block a.off n else none
  | _ => none
theorem rowsAt_get {H : IH} {b : Nat} : ∀ (n o : Nat) (rs : List (Value × List Int)), rowsAt H b o n = some rs → rs.length = n ∧ ∀ (i : Nat) r, rs[i]? = some r → H.load b (o + i) = some r.1 ∧ intsOf H r.1 = some r.2
  | 0, o, rs, h => by
    simp only [rowsAt, Option.some.injEq] at h
    subst h
    exact ⟨rfl, fun i z h => by simp at h⟩
  | n + 1, o, rs, h => by
    unfold rowsAt at h
    split at h
    · rename_i v hv
      split at h
      · rename_i zs hz
        obtain ⟨q, hq, rfl⟩ := Option.map_eq_some_iff.1 h
        obtain ⟨h1, h2⟩ := rowsAt_get n (o + 1) q hq
        refine ⟨by simp [h1], fun i r hi => ?_⟩
        cases i with
        | zero => simp only [List.getElem?_cons_zero, Option.some.injEq] at hi; subst hi; exact ⟨hv, hz⟩
        | succ i => have := h2 i r (by simpa using hi); rwa [show o + (i + 1) = o + 1 + i by omega]
      · cases h
    · cases h
theorem picOf_inv {H : IH} {v : Value} {rs : List (Value × List Int)} (h : picOf H v = some rs) : ∃ a c, v = .slice a rs.length c ∧ rs.length ≤ 1000 ∧
    ∀ (i : Nat) r, rs[i]? = some r → (∃ b o sp, a = some ⟨b, o, sp⟩ ∧ b < H.size ∧ H.load b (o + i) = some r.1) ∧ intsOf H r.1 = some r.2 := by
  unfold picOf at h
  split at h
  · cases h
    exact ⟨none, _, rfl, by simp, fun i z hi => by simp at hi⟩
  · rename_i a n c
    split at h
    · rename_i hn
      obtain ⟨hn, hb⟩ := hn
      obtain ⟨h1, h2⟩ := rowsAt_get n a.off rs h
      refine ⟨some a, c, by rw [h1], by omega, fun i r hi => ⟨⟨a.block, a.off, a.spot, rfl, hb, (h2 i r hi).1⟩, (h2 i r hi).2⟩⟩
    · cases h
  · cases h

/-- the lengths of the first rows -/
noncomputable def lensAt (H : IH) (b : Nat) : Nat → Nat → Option (List Nat)
  | _, 0 => some []
  | o, n + 1 => match H.load b o with
    | some (.slice _ m _) => (lensAt H b (o + 1) n).map (m :: ·)
    | _ => none
theorem lensAt_get {H : IH} {b : Nat} : ∀ (n o : Nat) (ls : List Nat), lensAt H b o n = some ls → ls.length = n ∧ ∀ (i : Nat) m, ls[i]? = some m → ∃ a c, H.load b (o + i) = some (.slice a m c)
  | 0, o, ls, h => by
    simp only [lensAt, Option.some.injEq] at h
    subst h
    exact ⟨rfl, fun i z h => by simp at h⟩
  | n + 1, o, ls, h => by
    unfold lensAt at h
    split at h
    · rename_i a m c hv
      obtain ⟨q, hq, rfl⟩ := Option.map_eq_some_iff.1 h
      obtain ⟨h1, h2⟩ := lensAt_get n (o + 1) q hq
      refine ⟨by simp [h1], fun i r hi => ?_⟩
      cases i with
      | zero => simp only [List.getElem?_cons_zero, Option.some.injEq] at hi; subst hi; exact ⟨a, c, hv⟩
      | succ i => have := h2 i r (by simpa using hi); rwa [show o + (i + 1) = o + 1 + i by omega]
    · cases h
end Go.Idl
namespace Go.Idl
theorem rowsAt_old {H H' : IH} (h : Old H H') {b : Nat} (hb : b < H.size) : ∀ (n o : Nat) (rs : List (Value × List Int)), rowsAt H b o n = some rs → rowsAt H' b o n = some rs
  | 0, _, _, hr => hr
  | n + 1, o, rs, hr => by
    unfold rowsAt at hr ⊢
    have : H'.load b o = H.load b o := by unfold IH.load; rw [h.get b hb]
    rw [this]
    cases hl : H.load b o with
    | none => rw [hl] at hr; cases hr
    | some v =>
      rw [hl] at hr
      simp only at hr ⊢
      cases hz : intsOf H v with
      | none => rw [hz] at hr; cases hr
      | some zs =>
        rw [hz] at hr
        obtain ⟨q, hq, rfl⟩ := Option.map_eq_some_iff.1 hr
        rw [intsOf_old h hz]
        simp only [rowsAt_old h hb n (o + 1) q hq, Option.map_some]
theorem picOf_old {H H' : IH} (h : Old H H') {v : Value} {rs : List (Value × List Int)} (hr : picOf H v = some rs) : picOf H' v = some rs := by
  unfold picOf at hr ⊢
  split at hr
  · exact hr
  · split at hr
    · rename_i hn
      obtain ⟨h1, h2⟩ := hn
      rw [if_pos ⟨h1, Nat.lt_of_lt_of_le h2 h.size⟩]
      exact rowsAt_old h h2 _ _ _ hr
    · cases hr
  · cases hr
theorem lensAt_old {H H' : IH} (h : Old H H') {b : Nat} (hb : b < H.size) : ∀ (n o : Nat), lensAt H' b o n = lensAt H b o n
  | 0, _ => rfl
  | n + 1, o => by
    unfold lensAt
    have : H'.load b o = H.load b o := by unfold IH.load; rw [h.get b hb]
    rw [this]
    split
    · rw [lensAt_old h hb n (o + 1)]
    · rfl
theorem box_agg {elem : TypeId} {cs : Array Value} {H : IH} : ibox elem (.agg cs) H = some (.val (.pointer (some ⟨H.size, 0, none⟩)) (H.push (.cells cs elem))) := rfl
end Go.Idl

namespace Go.Idl
variable {P : Program}

def AllRo (f : Inj) : Prop := ∀ b e, f b = some e → e.ro = true
theorem AllRo.add {f : Inj} {b : Nat} {e : Emb} (h : AllRo f) (he : e.ro = true) : AllRo (f.add b e) := by
  intro x y hx
  by_cases e1 : x = b
  · subst e1; rw [Inj.add_same] at hx; cases hx; exact he
  · rw [Inj.add_other e1] at hx; exact h x y hx

theorem Rel.addGhost {f : Inj} {H : IH} {w : World} (hR : Rel P f H w) (hro : AllRo f) (h0 : 0 < w.heap.size) : Rel P (f.add H.size ⟨0, 1, 0, true⟩) (H.push deadObj) w ∧ f.le (f.add H.size ⟨0, 1, 0, true⟩) := by
  have hnone : f H.size = none := addN_none hR
  have hle : f.le (f.add H.size ⟨0, 1, 0, true⟩) := Inj.le_add hnone
  have hro' : AllRo (f.add H.size ⟨0, 1, 0, true⟩) := hro.add rfl
  refine ⟨⟨?_, ?_, ?_, ?_, ?_, ?_⟩, hle⟩
  · intro b e hb
    by_cases e1 : b = H.size
    · subst e1; simp
    · rw [Inj.add_other e1] at hb; have := hR.dom b e hb; simp; omega
  · intro b hb
    simp only [IH.size_push] at hb
    rw [IH.get_push, if_neg (by omega)]
    exact hR.fresh b (by omega)
  · intro b e hb
    by_cases e1 : b = H.size
    · subst e1; rw [Inj.add_same] at hb; cases hb; exact h0
    · rw [Inj.add_other e1] at hb; exact hR.bound b e hb
  · intro b e o hb ho
    by_cases e1 : b = H.size
    · subst e1
      rw [IH.get_push, if_pos rfl] at ho; cases ho
      exact trivial
    · rw [Inj.add_other e1] at hb
      rw [IH.get_push, if_neg e1] at ho
      exact (hR.obj b e o hb ho).mono hle
  · intro b1 b2 e1 e2 o1 o2 _ h1 h2 _ _ _ _ _
    exact ⟨hro' b1 e1 h1, hro' b2 e2 h2⟩
  · intro b1 b2 e1 e2 h1 h2 _
    rw [hro' b1 e1 h1, hro' b2 e2 h2]

/-- a slice of integers in the world -/
def RInts (w : World) (A : Option Addr) (L C : Nat) (Z : List Int) : Prop :=
  (A = none ∧ L = 0 ∧ C = 0) ∨ ∃ a, A = some a ∧ L ≤ C ∧ Z.length = C ∧ ∀ i, i < C → w.cell? (a.add i) = some (.int .i64 (Z.getD i 0))

theorem intsAt_newF {H : IH} {el : TypeId} {fz : Nat × Nat} : ∀ (zs : List Int) (pre : List Value), intsAt (H.push (.cells (pre ++ zs.map (Value.int .i64)).toArray el fz)) H.size pre.length zs.length = some zs
  | [], pre => rfl
  | z :: zs, pre => by
    simp only [List.length_cons, List.map_cons]
    unfold intsAt
    have hl : (H.push (.cells (pre ++ Value.int .i64 z :: zs.map (Value.int .i64)).toArray el fz)).load H.size pre.length = some (.int .i64 z) := by
      unfold IH.load
      rw [IH.get_push, if_pos rfl]
      simp
    rw [hl]
    have := intsAt_newF (H := H) (el := el) (fz := fz) zs (pre ++ [Value.int .i64 z])
    simp only [List.append_assoc, List.singleton_append, List.length_append, List.length_singleton] at this
    simp only [this, Option.map_some]

theorem cell_block {w : World} {a : Addr} {v : Value} (h : w.cell? a = some v) : a.spot = none ∧ ∃ c el fz, w.heap[a.block]? = some (.cells c el fz) ∧ c[a.off]? = some v := by
  unfold World.cell? at h
  split at h
  · rename_i c el fz hc
    split at h
    · cases h
    · rename_i hs
      exact ⟨by simpa using hs, c, el, fz, hc, h⟩
  · cases h
theorem cell_at {w : World} {a : Addr} {v : Value} {c : Array Value} {el : TypeId} {fz : Nat × Nat} {i : Nat} (hb : w.heap[a.block]? = some (.cells c el fz)) (hs : a.spot = none) (h : w.cell? (a.add i) = some v) : c[a.off + i]? = some v := by
  unfold Addr.add at h
  by_cases hi : i = 0
  · subst hi
    rw [if_pos rfl] at h
    unfold World.cell? at h
    rw [hb] at h
    simpa [hs] using h
  · rw [if_neg hi] at h
    unfold World.cell? at h
    simpa [hb] using h

/-- a window of a block that is only read -/
theorem addWin {f : Inj} {H : IH} {w : World} (hR : Rel P f H w) (hro : AllRo f) {a : Addr} {L C : Nat} (hLC : L ≤ C) (hC : 0 < C) (us : List Value) (hus : us.length = L) (V : Nat → Value) (hcell : ∀ i, i < C → w.cell? (a.add i) = some (V i))
    (hv : ∀ i u, us[i]? = some u → VRel P f u (V i)) : ∃ el, Rel P (f.add H.size ⟨a.block, a.off, (match w.heap[a.block]? with | some (.cells c _ _) => c.size | _ => 0), true⟩) (H.push (.cells us.toArray el (0, 1))) w ∧
      f.le (f.add H.size ⟨a.block, a.off, (match w.heap[a.block]? with | some (.cells c _ _) => c.size | _ => 0), true⟩) ∧ a.spot = none := by
  have h0 := hcell 0 hC
  have e0 : a.add 0 = a := by simp [Addr.add]
  rw [e0] at h0
  obtain ⟨hs, c, el, fz, hb, hc0⟩ := cell_block h0
  have hsize : a.off + us.toArray.size ≤ c.size := by
    simp only [List.size_toArray, hus]
    by_cases hL : L = 0
    · have := (Array.getElem?_eq_some_iff.1 hc0).1; omega
    · have := (Array.getElem?_eq_some_iff.1 (cell_at hb hs (hcell (L - 1) (by omega)))).1; omega
  have := hR.addRo (r := a.block) (s := a.off) hb (fun b e hbe _ => hro b e hbe) us.toArray el hsize fun i v hi => by
    have hi' : us[i]? = some v := by simpa using hi
    have hlt : i < L := by rw [← hus]; exact (List.getElem?_eq_some_iff.1 hi').1
    exact ⟨V i, cell_at hb hs (hcell i (by omega)), hv i v hi'⟩
  refine ⟨el, ?_, ?_, hs⟩
  · simp only [hb]; exact this.1
  · simp only [hb]; exact this.2

theorem addInts {f : Inj} {H : IH} {w : World} (hR : Rel P f H w) (hro : AllRo f) (h0 : 0 < w.heap.size) {A : Option Addr} {L C : Nat} {Z : List Int} (h : RInts w A L C Z) :
    ∃ f' H' u, Rel P f' H' w ∧ f.le f' ∧ AllRo f' ∧ Old H H' ∧ VRel P f' u (.slice A L C) ∧ (∃ a, u = .slice a L C) ∧ (L ≤ 1000 → intsOf H' u = some (Z.take L)) := by
  rcases h with ⟨rfl, rfl, rfl⟩ | ⟨a, rfl, hLC, hZ, hcell⟩
  · exact ⟨f, H, .slice none 0 0, hR, f.le_refl, hro, .refl H, .base _ rfl, ⟨none, rfl⟩, fun _ => by simp [intsOf]⟩
  · by_cases hC : C = 0
    · subst hC
      have hL : L = 0 := by omega
      subst hL
      obtain ⟨g1, g2⟩ := hR.addGhost hro h0
      refine ⟨_, _, .slice (some ⟨H.size, 0, none⟩) 0 0, g1, g2, hro.add rfl, .push _ _, .gh Inj.add_same (by simp), ⟨_, rfl⟩, fun _ => ?_⟩
      simp [intsOf, intsAt]
    · have hlen : ((Z.take L).map (Value.int .i64)).length = L := by simp; omega
      obtain ⟨el, g1, g2, g3⟩ := addWin hR hro hLC (by omega) ((Z.take L).map (Value.int .i64)) hlen (fun i => .int .i64 (Z.getD i 0)) hcell (fun i u hu => by
        rw [List.getElem?_map, List.getElem?_take] at hu
        split at hu
        · cases hz : Z[i]? with
          | none => rw [hz] at hu; cases hu
          | some z =>
            rw [hz] at hu
            cases hu
            have : Z.getD i 0 = z := by simp [List.getD, hz]
            rw [this]
            exact .base _ rfl
        · cases hu)
      refine ⟨_, _, .slice (some ⟨H.size, 0, none⟩) L C, g1, g2, hro.add rfl, .push _ _, ?_, ⟨_, rfl⟩, fun hL => ?_⟩
      · have := VRel.sl (P := P) (o := 0) (len := L) (cap := C) (Inj.add_same (f := f) (b := H.size) (e := ⟨a.block, a.off, (match w.heap[a.block]? with | some (.cells c _ _) => c.size | _ => 0), true⟩))
        have ea : (⟨a.block, 0 + a.off, none⟩ : Addr) = a := by
          obtain ⟨ab, ao, as⟩ := a
          simp only [Nat.zero_add] at g3 ⊢
          cases g3; rfl
        rw [ea] at this
        exact this
      · unfold intsOf
        simp only
        rw [if_pos ⟨hL, by simp⟩]
        have := intsAt_newF (H := H) (el := el) (fz := (0, 1)) (Z.take L) []
        have hl : (Z.take L).length = L := by simp; omega
        rw [hl] at this
        exact this

/-- rows, one after another -/
theorem addRows {w : World} (h0 : 0 < w.heap.size) (A : Nat → Option Addr) (L C : Nat → Nat) (Z : Nat → List Int) : ∀ (n : Nat), (∀ r, r < n → RInts w (A r) (L r) (C r) (Z r)) → ∀ {f : Inj} {H : IH}, Rel P f H w → AllRo f →
    ∃ (f' : Inj) (H' : IH) (us : List Value), Rel P f' H' w ∧ f.le f' ∧ AllRo f' ∧ Old H H' ∧ us.length = n ∧ ∀ i u, us[i]? = some u → VRel P f' u (.slice (A i) (L i) (C i)) ∧ (∃ a, u = .slice a (L i) (C i)) ∧ (L i ≤ 1000 → intsOf H' u = some ((Z i).take (L i)))
  | 0, _, f, H, hR, hro => ⟨f, H, [], hR, f.le_refl, hro, .refl H, rfl, fun i u h => by simp at h⟩
  | n + 1, hrow, f, H, hR, hro => by
    obtain ⟨f1, H1, us, a1, a2, a3, a4, a5, a6⟩ := addRows h0 A L C Z n (fun r hr => hrow r (by omega)) hR hro
    obtain ⟨f2, H2, u, b1, b2, b3, b4, b5, b6, b7⟩ := addInts a1 a3 h0 (hrow n (by omega))
    refine ⟨f2, H2, us ++ [u], b1, Inj.le_trans a2 b2, b3, a4.trans b4, by simp [a5], fun i v hv => ?_⟩
    by_cases hi : i < n
    · rw [List.getElem?_append_left (by omega)] at hv
      obtain ⟨c1, c2, c3⟩ := a6 i v hv
      exact ⟨c1.mono b2, c2, fun h => intsOf_old b4 (c3 h)⟩
    · have hlt := (List.getElem?_eq_some_iff.1 hv).1
      simp [a5] at hlt
      have : i = n := by omega
      subst this
      rw [List.getElem?_append_right (by omega), a5, Nat.sub_self] at hv
      simp at hv
      subst hv
      exact ⟨b5, b6, b7⟩
end Go.Idl
namespace Go.Idl
variable {P : Program}
theorem load_new {H : IH} {el : TypeId} {fz : Nat × Nat} (l : List Value) (i : Nat) : (H.push (.cells l.toArray el fz)).load H.size i = l[i]? := by
  unfold IH.load
  rw [IH.get_push, if_pos rfl]
  simp
theorem lensAt_newF {H : IH} {el : TypeId} {fz : Nat × Nat} (l : List Value) (L C : Nat → Nat) (hl : ∀ (i : Nat) (u : Value), l[i]? = some u → ∃ a, u = .slice a (L i) (C i)) : ∀ (k o : Nat), o + k ≤ l.length → lensAt (H.push (.cells l.toArray el fz)) H.size o k = some ((List.range k).map fun j => L (o + j))
  | 0, _, _ => rfl
  | k + 1, o, h => by
    unfold lensAt
    rw [load_new, List.getElem?_eq_getElem (by omega)]
    obtain ⟨a, ha⟩ := hl o l[o] (List.getElem?_eq_getElem (by omega))
    rw [ha]
    simp only
    rw [lensAt_newF l L C hl k (o + 1) (by omega), Option.map_some, List.range_succ_eq_map]
    simp only [List.map_cons, List.map_map, Nat.add_zero]
    congr 2
    apply List.map_congr_left
    intro j _
    show L (o + 1 + j) = L (o + (j + 1))
    congr 1; omega
theorem rowsAt_newF {H : IH} {el : TypeId} {fz : Nat × Nat} (l : List Value) (Z : Nat → List Int) (hl : ∀ (i : Nat) (u : Value), l[i]? = some u → intsOf H u = some (Z i)) : ∀ (k o : Nat), o + k ≤ l.length → ∃ rs, rowsAt (H.push (.cells l.toArray el fz)) H.size o k = some rs
  | 0, _, _ => ⟨[], rfl⟩
  | k + 1, o, h => by
    obtain ⟨rs, hrs⟩ := rowsAt_newF l Z hl k (o + 1) (by omega)
    unfold rowsAt
    rw [load_new, List.getElem?_eq_getElem (by omega)]
    simp only
    rw [intsOf_old (.push H _) (hl o l[o] (List.getElem?_eq_getElem (by omega)))]
    rw [hrs]
    exact ⟨_, rfl⟩
end Go.Idl
