/- Code, calls, rounds: an ideal run is a run of the model. Conditions: none. -/
import Derived.Test.YtpdlblofcdcikaaGreatDoorIdlF
import Derived.RangeFuncRecord
import Derived.Test.YtpdlblofcdcikaaGreatDoorIdlA
set_option linter.unusedSimpArgs false
set_option linter.unusedVariables false
namespace Go.Idl
variable {P : Program} {good : FuncId → Bool} {nat : Nats} {B : Nat}

def exitOf : IExit → Exit
  | .normal => .normal
  | .exit id => .exit id
  | .goto l => .goto l
  | .ret => .ret

/-- what code must come to -/
def XPost (P : Program) (B : Nat) (f : Inj) (H : IH) (w : World) (Q : Out → Prop) : Exit → Act → World → Prop := fun e a' w' =>
  ∃ o f', Q o ∧ e = exitOf o.e ∧ Rel P f' o.H w' ∧ Grow f H w f' o.H w' ∧ VRelL P f' o.env a'.tmps.toList ∧ Marks B f' w' a'.defers

def CodeSpec (P : Program) (G : Nat → Bool) (run : Job → IH → T Out) : Prop :=
  ∀ (B : Nat) (F : Fence) (rd : Bool) (c : Code) (env : Env) (H : IH) (f : Inj) (a : Act) (w : World) (Q : Out → Prop), Free F → rd = F.round.isSome → Rel P f H w → Glob G f → codeOk (globOk f) rd c = true →
    VRelL P f env a.tmps.toList → Marks B f w a.defers → (run (.code c env) H).holds Q → c.wpIn F 0 P (XPost P B f H w Q) a w

/-- a region that draws its order -/
def DrawSpec (P : Program) (G : Nat → Bool) (nat : Nats) (run : Job → IH → T Out) : Prop :=
  ∀ (B : Nat) (F : Fence) (id : Nat) (ops : Array Oper) (env : Env) (H : IH) (f : Inj) (a : Act) (w : World) (r : Env × IH), Free F → Rel P f H w → Glob G f → opsOk (globOk f) ops = true → drawOk ops = true →
    VRelL P f env a.tmps.toList → Marks B f w a.defers → idraw P run nat ops env H = some r → (Code.region id ops true).wpIn F 0 P (XPost P B f H w fun o => o = ⟨.normal, r.1, r.2⟩) a w

theorem xpost_mono {f f1 : Inj} {H H1 : IH} {w w1 : World} {Q Q1 : Out → Prop} (hg : Grow f H w f1 H1 w1) (hq : ∀ o, Q1 o → Q o) {e : Exit} {a : Act} {w2 : World} (h : XPost P B f1 H1 w1 Q1 e a w2) : XPost P B f H w Q e a w2 := by
  obtain ⟨o, f', h1, h2, h3, h4, h5, h6⟩ := h
  exact ⟨o, f', hq o h1, h2, h3, hg.trans h4, h5, h6⟩

theorem xpost_ret {f : Inj} {H : IH} {w : World} {Q : Out → Prop} {env : Env} {a : Act} {e : IExit} (hR : Rel P f H w) (henv : VRelL P f env a.tmps.toList) (hm : Marks B f w a.defers) (h : (T.ret (⟨e, env, H⟩ : Out)).holds Q) :
    XPost P B f H w Q (exitOf e) a w := ⟨_, f, h, rfl, hR, .refl _ _ _, henv, hm⟩

section
variable {G : Nat → Bool} {run : Job → IH → T Out}

theorem seq_sound (hrun : CodeSpec P G run) {F : Fence} {rd : Bool} {x y : Code} {env : Env} {H : IH} {f : Inj} {a : Act} {w : World} {Q : Out → Prop} (hF : Free F) (hrd : rd = F.round.isSome) (hR : Rel P f H w) (hG : Glob G f)
    (hx : codeOk (globOk f) rd x = true) (hy : codeOk (globOk f) rd y = true) (henv : VRelL P f env a.tmps.toList) (hm : Marks B f w a.defers) (h : ((run (.code x env) H).bind (seqStep run y)).holds Q) :
    (Code.seq x y).wpIn F 0 P (XPost P B f H w Q) a w := by
  rw [T.holds_bind] at h
  refine wpIn_seq (wpIn_mono (hrun B F rd x env H f a w _ hF hrd hR hG hx henv hm h) ?_)
  rintro e a' w' ⟨o, f', hq, rfl, h1, h2, h3, h4⟩
  unfold seqStep at hq
  cases he : o.e with
  | normal =>
    rw [he] at hq
    exact wpIn_mono (hrun B F rd y o.env o.H f' a' w' Q hF hrd h1 (hG.mono h2.le) (codeOk_mono (globOk_mono h2.le) _ _ hy) h3 h4 hq) fun e a w => xpost_mono h2 fun _ h => h
  | exit id => rw [he] at hq; exact ⟨o, f', hq, by rw [he], h1, h2, h3, h4⟩
  | goto l => rw [he] at hq; exact ⟨o, f', hq, by rw [he], h1, h2, h3, h4⟩
  | ret => rw [he] at hq; exact ⟨o, f', hq, by rw [he], h1, h2, h3, h4⟩

theorem block_sound (hrun : CodeSpec P G run) {F : Fence} {rd : Bool} {id : Nat} {x : Code} {env : Env} {H : IH} {f : Inj} {a : Act} {w : World} {Q : Out → Prop} (hF : Free F) (hrd : rd = F.round.isSome) (hR : Rel P f H w) (hG : Glob G f)
    (hx : codeOk (globOk f) rd x = true) (henv : VRelL P f env a.tmps.toList) (hm : Marks B f w a.defers) (h : ((run (.code x env) H).bind (blockStep id)).holds Q) :
    (Code.block id x).wpIn F 0 P (XPost P B f H w Q) a w := by
  rw [T.holds_bind] at h
  refine wpIn_block (wpIn_mono (hrun B F rd x env H f a w _ hF hrd hR hG hx henv hm h) ?_)
  rintro e a' w' ⟨o, f', hq, rfl, h1, h2, h3, h4⟩
  unfold blockStep at hq
  cases he : o.e with
  | normal => rw [he] at hq; exact ⟨o, f', hq, by rw [he], h1, h2, h3, h4⟩
  | exit id' =>
    rw [he] at hq
    simp only [exitOf, Exit.inBlock]
    simp only [cond_eq_ite] at hq
    by_cases hid : id' = id
    · rw [if_pos hid]
      rw [if_pos (by rw [hid]; exact Nat.beq_refl id)] at hq
      exact ⟨⟨.normal, o.env, o.H⟩, f', hq, rfl, h1, h2, h3, h4⟩
    · rw [if_neg hid]
      rw [if_neg (fun hb => hid (Nat.eq_of_beq_eq_true hb))] at hq
      exact ⟨o, f', hq, by rw [he]; rfl, h1, h2, h3, h4⟩
  | goto l => rw [he] at hq; exact ⟨o, f', hq, by rw [he], h1, h2, h3, h4⟩
  | ret => rw [he] at hq; exact ⟨o, f', hq, by rw [he], h1, h2, h3, h4⟩

theorem cond_sound (hrun : CodeSpec P G run) {F : Fence} {rd : Bool} {v : Operand} {x y : Code} {env : Env} {H : IH} {f : Inj} {a : Act} {w : World} {Q : Out → Prop} (hF : Free F) (hrd : rd = F.round.isSome) (hR : Rel P f H w) (hG : Glob G f)
    (hv : opdOk (globOk f) v = true) (hx : codeOk (globOk f) rd x = true) (hy : codeOk (globOk f) rd y = true) (henv : VRelL P f env a.tmps.toList) (hm : Marks B f w a.defers) (h : (condStep run (env.val v) x y env H).holds Q) :
    (Code.cond v x y).wpIn F 0 P (XPost P B f H w Q) a w := by
  have hev := eval_rel henv hv
  unfold condStep at h
  split at h
  · rename_i t ht
    rw [ht] at hev
    refine wpIn_cond (t := t) hev.boolV ?_
    cases t with
    | true => exact hrun B F rd x env H f a w Q hF hrd hR hG hx henv hm h
    | false => exact hrun B F rd y env H f a w Q hF hrd hR hG hy henv hm h
  · exact h.elim

theorem region_sound (hc : CallSpec P G (enterT run nat)) (hr : RoundSpec P G run) (hd : DrawSpec P G nat run) {F : Fence} {id : Nat} {ops : Array Oper} {draw : Bool} {env : Env} {H : IH} {f : Inj} {a : Act} {w : World} {Q : Out → Prop} (hF : Free F)
    (hR : Rel P f H w) (hG : Glob G f) (hok : opsOk (globOk f) ops = true) (hdr : (!draw || drawOk ops) = true) (henv : VRelL P f env a.tmps.toList) (hm : Marks B f w a.defers) (h : (regionStep P run nat ops draw env H).holds Q) :
    (Code.region id ops draw).wpIn F 0 P (XPost P B f H w Q) a w := by
  unfold regionStep at h
  cases draw with
  | true =>
    simp only [cond_true] at h
    unfold drawStep at h
    split at h
    · rename_i env2 H2 hi
      refine wpIn_mono (hd B F id ops env H f a w (env2, H2) hF hR hG hok (by simpa using hdr) henv hm hi) fun e a w => xpost_mono (.refl _ _ _) fun o ho => ?_
      subst ho; exact h
    · exact h.elim
  | false =>
    simp only [cond_false] at h
    rw [T.holds_bind] at h
    refine wpIn_region_list (ops_sound hF hc hr ops.toList env H f a w _ hR hG henv hm (fun o ho => List.all_eq_true.1 hok o ho) h ?_)
    intro r a' w' f' hq h1 h2 h3 h4
    exact ⟨⟨.normal, r.1, r.2⟩, f', hq, rfl, h1, h2, h3, h4⟩
end

/-- the least number with a property -/
theorem exists_least {p : Nat → Prop} (h : ∃ n, p n) : ∃ n, p n ∧ ∀ m, p m → n ≤ m := by
  obtain ⟨n, hn⟩ := h
  induction n using Nat.strongRecOn with
  | _ n ih =>
    by_cases hx : ∃ m, m < n ∧ p m
    · obtain ⟨m, hm, hpm⟩ := hx
      exact ih m hm hpm
    · exact ⟨n, hn, fun m hpm => by
        by_cases hmn : n ≤ m
        · exact hmn
        · exact absurd ⟨m, by omega, hpm⟩ hx⟩
open Classical in
noncomputable def least (p : Nat → Prop) : Nat := if h : ∃ n, p n then Classical.choose (exists_least h) else 0
theorem least_spec {p : Nat → Prop} (h : ∃ n, p n) : p (least p) ∧ ∀ m, p m → least p ≤ m := by
  unfold least
  rw [dif_pos h]
  exact Classical.choose_spec (exists_least h)

theorem sub_xpost {f : Inj} {H H0 : IH} {w : World} {Q : Out → Prop} {e : Exit} {a : Act} {w' : World} (h : XPost P B f H w (fun p => ∃ o, Q o ∧ Sub H0 p o) e a w') : XPost P B f H w Q e a w' := by
  obtain ⟨p, f', ⟨o, hq, hs⟩, h1, h2, h3, h4, h5⟩ := h
  exact ⟨o, f', hq, by rw [hs.e]; exact h1, hs.rel _ _ _ h2, h3.sizes (Nat.le_refl _) hs.size, hs.env _ _ _ h4, h5⟩

/-- a loop: with the fuel that is left -/
theorem loop_sound {G : Nat → Bool} (hn : NatExt nat) {F : Fence} {rd : Bool} {x : Code} (hF : Free F) (hrd : rd = F.round.isSome) (n : Nat) (hrun : ∀ m, m < n → CodeSpec P G (iex P good nat m))
    {env : Env} {H : IH} {f : Inj} {a : Act} {w : World} {Q : Out → Prop} (hR : Rel P f H w) (hG : Glob G f)
    (hx : codeOk (globOk f) rd x = true) (henv : VRelL P f env a.tmps.toList) (hm : Marks B f w a.defers) (h : (iex P good nat n (.code (.loop x) env) H).holds Q) :
    (Code.loop x).wpIn F 0 P (XPost P B f H w Q) a w := by
  let J : Act → World → Nat → Prop := fun a1 w1 m => m ≤ n ∧ ∃ env1 H1 f1 Q1, Rel P f1 H1 w1 ∧ Grow f H w f1 H1 w1 ∧ VRelL P f1 env1 a1.tmps.toList ∧ Marks B f1 w1 a1.defers ∧ (iex P good nat m (.code (.loop x) env1) H1).holds Q1 ∧
    ∀ e a2 w2, XPost P B f1 H1 w1 Q1 e a2 w2 → XPost P B f H w Q e a2 w2
  refine wpIn_loop (fun a1 w1 => ∃ m, J a1 w1 m) (fun a1 w1 => least (J a1 w1)) ⟨n, Nat.le_refl _, env, H, f, Q, hR, .refl _ _ _, henv, hm, h, fun _ _ _ h => h⟩ ?_
  intro a1 w1 hI
  obtain ⟨⟨hle, env1, H1, f1, Q1, r1, g1, v1, m1, hh, hq1⟩, hmin⟩ := least_spec hI
  generalize hm0 : least (J a1 w1) = m at *
  cases m with
  | zero => exact hh.elim
  | succ m =>
    have hh' : (join H1 ((iex P good nat m (.code x env1) H1).bind (loopStep (iex P good nat m) x))).holds Q1 := hh
    have hext : ((iex P good nat m (.code x env1) H1).bind (loopStep (iex P good nat m) x)).all fun o => Ext H1 o.H := by
      refine bind_ext (iex_ext hn m) fun o => ?_
      unfold loopStep
      split
      · exact iex_ext hn m _ _
      · exact .refl _
    have h2 := join_holds r1.fresh _ hext hh'
    rw [T.holds_bind] at h2
    refine wpIn_mono (hrun m (by omega) B F rd x env1 H1 f1 a1 w1 _ hF hrd r1 (hG.mono g1.le) (codeOk_mono (globOk_mono g1.le) _ _ hx) v1 m1 h2) ?_
    rintro e a2 w2 ⟨o, f2, hq, rfl, k1, k2, k3, k4⟩
    unfold loopStep at hq
    have out : ∀ {e : IExit}, o.e = e → (T.ret o).holds (fun p => ∃ o, Q1 o ∧ Sub H1 p o) → XPost P B f H w Q (exitOf e) a2 w2 := fun {e} he hq => by
      refine hq1 _ _ _ (sub_xpost (H0 := H1) ⟨o, f2, hq, by rw [he], k1, k2, k3, k4⟩)
    cases he : o.e with
    | normal =>
      rw [he] at hq
      have hJ : J a2 w2 m := ⟨by omega, o.env, o.H, f2, _, k1, g1.trans k2, k3, k4, hq, fun e a3 w3 h3 => hq1 e a3 w3 (xpost_mono k2 (fun _ h => h) (sub_xpost (H0 := H1) h3))⟩
      exact ⟨⟨m, hJ⟩, by have := (least_spec ⟨m, hJ⟩).2 m hJ; show least (J a2 w2) < _; omega⟩
    | exit id => rw [he] at hq; exact out he hq
    | goto l => rw [he] at hq; exact out he hq
    | ret => rw [he] at hq; exact out he hq

end Go.Idl

namespace Go.Idl
variable {P : Program} {good : FuncId → Bool} {nat : Nats} {B : Nat}

/-- a block that no ideal one stands for turns -/
theorem Rel.other {f : Inj} {H : IH} {w w' : World} {r : Nat} (hR : Rel P f H w) (hu : ∀ b e, f b = some e → e.r ≠ r) (hs : w'.heap.size = w.heap.size) (hw : ∀ x : Nat, x ≠ r → w'.heap[x]? = w.heap[x]?) : Rel P f H w' :=
  ⟨hR.dom, hR.fresh, fun b e hb => by rw [hs]; exact hR.bound b e hb, fun b e o hb ho => by rw [hw _ (hu b e hb)]; exact hR.obj b e o hb ho, hR.sep, hR.rosame⟩

/-- worlds that differ in blocks that lay in neither ... -/
structure Past (f : Inj) (w w' : World) : Prop where
  size : w'.heap.size = w.heap.size
  same : ∀ r, (∃ b e, f b = some e ∧ e.r = r) → w'.heap[r]? = w.heap[r]?

theorem leaves_sound {F : Fence} {fn : Func} {tmps : Array Value} {R : Ending → World → Prop} {f : Inj} {H : IH} : ∀ (ds : List Deferred) (w : World), Rel P f H w → Marks B f w ds →
    (∀ w', Rel P f H w' → (∀ r, (∀ d ∈ ds, d.target ≠ .collected r) → w'.heap[r]? = w.heap[r]?) → w'.heap.size = w.heap.size → (w'.os = w.os ∧ w'.output = w.output ∧ w'.tape = w.tape) → ∃ v, (results fn tmps).run P w' = .ok v w' ∧ R (.returned v) w') →
    LeavesInM F 0 P fn tmps R ds .returning w
  | [], w, hR, _, hK => by
    obtain ⟨v, h1, h2⟩ := hK w hR (fun _ _ => rfl) rfl ⟨rfl, rfl, rfl⟩
    exact ⟨v, h1, h2⟩
  | d :: ds, w, hR, ⟨⟨r, h1, hB, h2, h3, h4, h5⟩, h6⟩, hK => by
    have hsame : ∀ x : Nat, x ≠ r → (w.putObj r (.deferred none)).heap[x]? = w.heap[x]? := fun x hx => World.putObj_heap_other hx
    have hR' : Rel P f H (w.putObj r (.deferred none)) := hR.other h4 (by simp) hsame
    refine ⟨by simp, .inl ⟨r, w.putObj r (.deferred none), h1, run_takeDeferred h3, leaves_sound ds _ hR' ?_ fun w' hR2 hs2 hsz hot => hK w' hR2 (fun x hx => ?_) (by rw [hsz]; simp) hot⟩⟩
    · have key : ∀ (ds : List Deferred), (∀ d' ∈ ds, d'.target ≠ .collected r) → Marks B f w ds → Marks B f (w.putObj r (.deferred none)) ds := by
        intro ds
        induction ds with
        | nil => intro _ hb; simpa [Marks] using hb
        | cons d ds ih =>
          rintro hn ⟨⟨x, g1, gB, g2, g3, g4, g5⟩, g6⟩
          have hxr : x ≠ r := fun hx => hn d (by simp) (by rw [g1, hx])
          exact ⟨⟨x, g1, gB, by simpa using g2, by rw [hsame x hxr]; exact g3, g4, g5⟩, ih (fun d' hd' => hn d' (by simp [hd'])) g6⟩
      exact key ds h5 h6
    · rw [hs2 x (fun d' hd' => hx d' (by simp [hd'])), hsame x (fun hxr => hx d (by simp) (by rw [h1, hxr]))]

/-- how a function's results are read -/
structure Reads (g : ResultVar → Sem Value) (tmps : Array Value) : Prop where
  tmp : ∀ t, g (.tmp t) = pure (tmps.getD t undef)
  cell : ∀ a t, g (.cell a t) = (asAddr (tmps.getD a undef)).bind (loadVar t)

theorem ires1_sound {g : ResultVar → Sem Value} {f : Inj} {H : IH} {env : Env} {tmps : Array Value} {rv : ResultVar} {v : Value} (hg : Reads g tmps) (henv : VRelL P f env tmps.toList) (h : ires1 P env H rv = some v) :
    ∀ w, Rel P f H w → ∃ v', (g rv).run P w = .ok v' w ∧ VRel P f v v' := by
  intro w hR
  have hget : ∀ t, VRel P f ((nthR env t).getD undef) (tmps.getD t undef) := fun t => env_get (a := { tmps := tmps, defers := [] }) henv t
  cases rv with
  | tmp t =>
    simp only [ires1, Option.some.injEq] at h
    subst h
    exact ⟨_, by rw [hg.tmp]; simp, hget t⟩
  | cell a t =>
    have h0 : iloadAt P t ((nthR env a).getD undef) H = some v := h
    obtain ⟨v', h1, h2⟩ := sim_loadAt hR h0 (hget a)
    have hp : ∃ x, tmps.getD a undef = .pointer (some x) := by
      have hg := hget a
      unfold iloadAt at h0
      split at h0
      · rename_i b i he
        rw [he] at hg
        obtain ⟨e, _, hv⟩ := hg.ptr_inv
        exact ⟨_, hv⟩
      · cases h0
    obtain ⟨x, hx⟩ := hp
    refine ⟨v', ?_, h2⟩
    rw [hg.cell, hx]
    rw [hx] at h1
    exact h1

theorem iresL_sound {g : ResultVar → Sem Value} {f : Inj} {H : IH} {env : Env} {tmps : Array Value} (hg : Reads g tmps) (henv : VRelL P f env tmps.toList) {w : World} (hR : Rel P f H w) : ∀ (l : List ResultVar) (vs : List Value), iresL P env H l = some vs →
    ∃ vs', (l.mapM g).run P w = .ok vs' w ∧ VRelL P f vs vs'
  | [], vs, h => by
    simp only [iresL, Option.some.injEq] at h
    subst h
    exact ⟨[], by simp, .nil⟩
  | rv :: l, vs, h => by
    unfold iresL at h
    split at h
    · rename_i v hv
      split at h
      · rename_i us hus
        cases h
        obtain ⟨v', h1, h2⟩ := ires1_sound hg henv hv w hR
        obtain ⟨us', h3, h4⟩ := iresL_sound hg henv hR l us hus
        refine ⟨v' :: us', ?_, .cons h2 h4⟩
        rw [List.mapM_cons]
        simp only [Sem.run_bind, h1, Result.andThen_ok, h3, Sem.run_pure]
      · cases h
    · cases h

theorem one_rel {f : Inj} {vs vs' : List Value} (h : VRelL P f vs vs') : VRel P f (one vs) (one vs') := by
  cases vs with
  | nil => rw [h.nil_left]; exact .undef
  | cons v vs =>
    obtain ⟨v', t', rfl, hv, ht⟩ := h.uncons
    cases vs with
    | nil => rw [ht.nil_left]; exact hv
    | cons u vs =>
      obtain ⟨u', t2, rfl, hu, ht2⟩ := ht.uncons
      exact .of_tuple (.cons hv (.cons hu ht2))

theorem one_eq (vs : List Value) : (if h : vs.toArray.size = 1 then vs.toArray[0] else Value.tuple vs.toArray) = one vs := by
  cases vs with
  | nil => rfl
  | cons v vs =>
    cases vs with
    | nil => rfl
    | cons u vs => rw [dif_neg (by simp)]; rfl

theorem results_sound {f : Inj} {H : IH} {env : Env} {fn : Func} {tmps : Array Value} (henv : VRelL P f env tmps.toList) {w : World} (hR : Rel P f H w) {v : Value} (h : iresults P fn env H = some v) :
    ∃ v', (results fn tmps).run P w = .ok v' w ∧ VRel P f v v' := by
  unfold iresults at h
  obtain ⟨vs, h1, rfl⟩ := Option.map_eq_some_iff.1 h
  have key : ∀ g : ResultVar → Sem Value, Reads g tmps → ∃ v', (do let vs ← fn.results.mapM g; pure (if h : vs.size = 1 then vs[0] else .tuple vs) : Sem Value).run P w = .ok v' w ∧ VRel P f (one vs) v' := by
    intro g hg
    obtain ⟨vs', h2, h3⟩ := iresL_sound hg henv hR _ _ h1
    refine ⟨one vs', ?_, one_rel h3⟩
    rw [Array.mapM_eq_mapM_toList]
    simp only [Sem.run_bind, Sem.run_map, h2, Result.andThen_ok, Sem.run_pure]
    rw [one_eq]
  exact key _ ⟨fun _ => rfl, fun _ _ => rfl⟩

/-- the functions that an ideal run may enter -/
def Goods (P : Program) (good : FuncId → Bool) (G : Nat → Bool) : Prop := ∀ f fn c, good f = true → P.funcs[f]? = some fn → fn.body = some c → codeOk G false c = true

theorem marks_ge : ∀ {B : Nat} {f : Inj} {w : World} (ds : List Deferred), Marks B f w ds → ∀ r, r < B → ∀ d ∈ ds, d.target ≠ .collected r
  | _, _, _, [], _, _, _, d, hd => by cases hd
  | B, f, w, d :: ds, ⟨⟨x, g1, gB, _⟩, g6⟩, r, hr, d', hd' => by
    rcases List.mem_cons.1 hd' with rfl | hd'
    · rw [g1]; intro hx; cases hx; omega
    · exact marks_ge ds g6 r hr d' hd'

theorem call_sound {G : Nat → Bool} (hn : NatExt nat) (hgood : Goods P good G) (n : Nat) (hrun : CodeSpec P G (iex P good nat n)) (g : FuncId) (args args' : List Value) (H : IH) (f : Inj) (w : World) (Q : Value × IH → Prop)
    (hR : Rel P f H w) (hG : Glob G f) (ha : VRelL P f args args') (h : ((callStep P good (iex P good nat n) g args H).bind callOut).holds Q) : CallsIn Fence.wide 0 P g args'.toArray w (Comes P f H w Q) := by
  unfold callStep at h
  split at h
  · rename_i fn hfn
    split at h
    · rename_i c hb
      cases hgd : good g with
      | false => rw [hgd] at h; exact h.elim
      | true =>
        rw [hgd] at h
        simp only [cond_true] at h
        rw [T.holds_bind] at h
        have hext : ((iex P good nat n (.code c (appR args (List.replicate (fn.ntmps - args.length) undef))) H).bind (resStep P fn)).all fun o => Ext H o.H := by
          refine bind_ext (iex_ext hn n) fun o => ?_
          unfold resStep
          split
          · split
            · exact .refl _
            · exact trivial
          · split
            · exact .refl _
            · exact trivial
          · exact trivial
        have h2 := join_holds hR.fresh _ hext h
        rw [T.holds_bind, appR_eq] at h2
        have hcode : codeOk (globOk f) false c = true := codeOk_mono hG _ _ (hgood g fn c hgd hfn hb)
        have henv : VRelL P f (args ++ List.replicate (fn.ntmps - args.length) undef) (args'.toArray ++ Array.replicate (fn.ntmps - args'.toArray.size) undef).toList := by
          have e1 : (args'.toArray ++ Array.replicate (fn.ntmps - args'.toArray.size) undef).toList = args' ++ List.replicate (fn.ntmps - args.length) undef := by simp [ha.1]
          rw [e1]
          refine ha.append ?_
          have key : ∀ n, VRelL P f (List.replicate n undef) (List.replicate n undef) := by
            intro n
            induction n with
            | zero => exact .nil
            | succ n ih => exact .cons .undef ih
          exact key _
        refine callsIn_of_wp_marks hfn hb trivial (wpIn_mono (hrun w.heap.size Fence.wide false c _ H f _ w _ free_wide rfl hR hG hcode henv (Nat.le_refl _) h2) ?_)
        rintro e a' w' ⟨o, f', hq, rfl, k1, k2, k3, k4⟩
        -- what the function hands back
        have done : ∀ v, iresults P fn o.env o.H = some v → (T.ret (⟨.normal, [v], o.H⟩ : Out)).holds (fun p => ∃ o', (callOut o').holds Q ∧ Sub H p o') →
            LeavesInM Fence.wide 0 P fn a'.tmps (Comes P f H w Q) a'.defers .returning w' := by
          rintro v hv ⟨o', hq', hs⟩
          refine leaves_sound a'.defers w' k1 k4 fun w2 hR2 hsame hsz hot => ?_
          obtain ⟨v', h3, h4⟩ := results_sound (fn := fn) k3 hR2 hv
          refine ⟨v', h3, ?_⟩
          have henv' := hs.env P f' [v'] (.cons h4 .nil)
          unfold callOut at hq'
          split at hq'
          · rename_i u hu
            rw [hu] at henv'
            obtain ⟨u', t', he, hu', _⟩ := henv'.uncons
            cases he
            refine ⟨v', (u, o'.H), f', rfl, hq', hs.rel _ _ _ hR2, ⟨Nat.le_trans k2.isize hs.size, k2.stay, k2.le, by rw [hsz]; exact k2.size, fun r hr ho => ?_, k2.un, ⟨hot.1.trans k2.out.1, hot.2.1.trans k2.out.2.1, hot.2.2.trans k2.out.2.2⟩⟩, hu'⟩
            obtain ⟨q1, q2⟩ := k2.keep r hr ho
            exact ⟨q1, by rw [hsame r (fun d hd => marks_ge _ k4 r hr d hd)]; exact q2⟩
          · exact hq'.elim
        unfold resStep at hq
        cases he : o.e with
        | normal =>
          rw [he] at hq
          simp only at hq
          split at hq
          · rename_i v hv; exact done v hv hq
          · exact hq.elim
        | ret =>
          rw [he] at hq
          simp only at hq
          split at hq
          · rename_i v hv; exact done v hv hq
          · exact hq.elim
        | exit id => rw [he] at hq; exact hq.elim
        | goto l => rw [he] at hq; exact hq.elim
    · exact h.elim
  · exact h.elim

end Go.Idl

namespace Go.Idl
variable {P : Program} {good : FuncId → Bool} {nat : Nats} {B : Nat}

theorem put_obj {w : World} {r : Nat} {o : Obj} (h : r < w.heap.size) (x : Nat) : (w.putObj r o).heap[x]? = if x = r then some o else w.heap[x]? := heap_put h

theorem loop_obj {f : Inj} {H : IH} {w : World} {l : Nat} {e : Emb} {lp : Loop} (hR : Rel P f H w) (he : f l = some e) (hg : H.get l = some (.loop lp)) :
    e.ro = false ∧ ∃ lp', w.heap[e.r]? = some (.loop lp') ∧ lp'.state = lp.state ∧ lp'.pending = lp.pending ∧ lp'.params = lp.params ∧ lp'.assign = lp.assign ∧ lp'.body = lp.body ∧
      VRelL P f lp.tmps.toList lp'.tmps.toList ∧ codeOk (globOk f) true lp.assign = true ∧ codeOk (globOk f) true lp.body = true ∧ (∀ c, lp.pending = some c → isJump c = true) ∧ e.shift = 0 := hR.obj l e _ he hg

/-- the loop's record turns in its state and its pending jump -/
theorem put_loop {f : Inj} {H : IH} {w : World} {l : Nat} {e : Emb} {lp lp' : Loop} (st : LoopState) (pd : Option Code) (hpd : ∀ c, pd = some c → isJump c = true) (hR : Rel P f H w) (he : f l = some e) (hg : H.get l = some (.loop lp))
    (h0 : w.heap[e.r]? = some (.loop lp')) :
    Rel P f (H.put l (.loop { lp with state := st, pending := pd })) (w.putObj e.r (.loop { lp' with state := st, pending := pd })) ∧ Grow f H w f (H.put l (.loop { lp with state := st, pending := pd })) (w.putObj e.r (.loop { lp' with state := st, pending := pd })) := by
  obtain ⟨hro, lp2, h1, g1, g2, g3, g4, g5, g6, g7, g8, g9, g10⟩ := loop_obj hR he hg
  rw [h0] at h1; cases h1
  obtain ⟨r1, r2, _⟩ := Rel.put (o1 := .loop { lp with state := st, pending := pd }) (o1' := .loop { lp' with state := st, pending := pd }) (w' := w.putObj e.r (.loop { lp' with state := st, pending := pd })) hR he hg rfl hro
    ⟨hro, _, rfl, rfl, rfl, g3, g4, g5, g6, g7, g8, hpd, g10⟩ (put_obj (hR.bound l e he)) (by simp)
  exact ⟨r1, r2⟩

theorem fold_set {f : Inj} : ∀ (ps : List Tmp) (args args' : List Value) (t t' : List Value), VRelL P f args args' → VRelL P f t t' →
    VRelL P f ((ps.zip args).foldl (fun e p => setR e p.1 p.2) t) ((ps.zip args').foldl (fun e p => e.set p.1 p.2) t')
  | [], args, args', t, t', _, ht => by simpa using ht
  | p :: ps, [], args', t, t', ha, ht => by rw [ha.nil_left]; simpa using ht
  | p :: ps, a :: args, args', t, t', ha, ht => by
    obtain ⟨a', r', rfl, hv, hr⟩ := ha.uncons
    simp only [List.zip_cons_cons, List.foldl_cons]
    exact fold_set ps args r' _ _ hr (by rw [setR_eq]; exact ht.set hv p)

theorem fold_arr : ∀ (l : List (Tmp × Value)) (t : Array Value), (l.foldl (fun tmps (p : Tmp × Value) => tmps.setIfInBounds p.1 p.2) t).toList = l.foldl (fun e p => e.set p.1 p.2) t.toList
  | [], t => rfl
  | p :: l, t => by
    simp only [List.foldl_cons]
    rw [fold_arr l, Array.toList_setIfInBounds]

theorem round_sound {G : Nat → Bool} (n : Nat) (hrun : CodeSpec P G (iex P good nat n)) (l : Nat) (args args' : List Value) (H : IH) (f : Inj) (w : World) (e : Emb) (Q : Value × IH → Prop)
    (hR : Rel P f H w) (hG : Glob G f) (he : f l = some e) (ha : VRelL P f args args') (h : ((roundStep (iex P good nat n) l args H).bind callOut).holds Q) :
    ∃ fn tmps assign body, (Instr.yield e.r args'.toArray).run P w = .ok (.round e.r fn tmps assign body) w ∧ RoundIn Fence.wide 0 P e.r fn tmps assign body w (Comes P f H w Q) := by
  unfold roundStep at h
  split at h
  · rename_i lp hg
    split at h
    · rename_i hc
      simp only [Bool.and_eq_true, beq_iff_eq, decide_eq_true_eq] at hc
      obtain ⟨hst, hbase, hlen⟩ := hc
      have hlen : args.length = lp.params.size := Nat.eq_of_beq_eq_true hlen
      obtain ⟨hro, lp', h1, g1, g2, g3, g4, g5, g6, g7, g8, g9, g10⟩ := loop_obj hR he hg
      refine ⟨lp'.fn, _, lp'.assign, lp'.body, run_yield h1 (by rw [g3, ← hlen, ha.1]; simp), ?_⟩
      rw [T.holds_bind, T.holds_bind] at h
      have henv : VRelL P f ((lp.params.toList.zip args).foldl (fun e p => setR e p.1 p.2) lp.tmps.toList) ((lp'.params.zip args'.toArray).foldl (fun tmps (t, a) => tmps.setIfInBounds t a) lp'.tmps).toList := by
        rw [← Array.foldl_toList, Array.toList_zip]
        have := fold_arr (lp'.params.toList.zip args') lp'.tmps
        simp only [] at this ⊢
        rw [this, g3]
        exact fold_set lp.params.toList args args' _ _ ha g6
      refine roundIn_of_wpIn (F := Fence.wide) trivial ?_
      rw [g4, g5]
      refine wpIn_mono (hrun w.heap.size (Fence.wide.inRound e.r) true lp.assign _ H f _ w _ (free_round _) rfl hR hG g7 henv (Nat.le_refl _) h) ?_
      rintro ex a1 w1 ⟨o, f1, hq, rfl, k1, k2, k3, k4⟩
      unfold roundBody at hq
      cases heo : o.e with
      | normal =>
        rw [heo] at hq
        simp only at hq
        split at hq
        · rename_i lp1 hg1
          split at hq
          · rename_i hst1
            simp only [beq_iff_eq] at hst1
            have he1 := k2.le _ _ he
            obtain ⟨_, lp1', q1, q2, q3, q4, q5, q6, q7, q8, q9, q10, q11⟩ := loop_obj k1 he1 hg1
            refine ⟨_, run_beginRound q1 (by rw [q2, hst1]), ?_⟩
            obtain ⟨p1, p2⟩ := put_loop .busy lp1.pending q10 k1 he1 hg1 q1
            rw [T.holds_bind] at hq
            have e1 : ({ lp1' with state := .busy, pending := lp1.pending } : Loop) = { lp1' with state := .busy } := by rw [← q3]
            have e2 : ({ lp1 with state := .busy, pending := lp1.pending } : Loop) = { lp1 with state := .busy } := rfl
            rw [e1, e2] at p1
            rw [e1] at p2
            have hG1 := hG.mono k2.le
            refine wpIn_mono (hrun w.heap.size (Fence.wide.inRound e.r) true lp.body _ _ f1 a1 _ _ (free_round _) rfl p1 hG1 (codeOk_mono (globOk_mono k2.le) _ _ g8) k3 (Marks.grow p2 _ k4) hq) ?_
            rintro ex2 a2 w2 ⟨s, f2, hs, rfl, s1, s2, s3, s4⟩
            unfold roundEnd at hs
            split at hs
            · rename_i lp2 hg2
              have he2 := s2.le _ _ he1
              obtain ⟨_, lp2', t1, t2, t3, t4, t5, t6, t7, t8, t9, t10, t11⟩ := loop_obj s1 he2 hg2
              have hjump : ∀ c, jumpOf s.e = some c → isJump c = true := by
                intro c hc
                cases hse : s.e <;> rw [hse] at hc <;> simp [jumpOf] at hc <;> subst hc <;> rfl
              obtain ⟨u1, u2⟩ := put_loop (if (jumpOf s.e).isNone then .ready else .done) (jumpOf s.e) hjump s1 he2 hg2 t1
              have fin : ∃ v w', (Instr.endRound e.r (jumpOf s.e)).run P w2 = .ok v w' ∧ Comes P f H w Q (.returned v) w' :=
                ⟨_, _, run_endRound (jumpOf s.e) t1, ⟨_, _, f2, rfl, hs, u1, ((k2.trans p2).trans s2).trans u2, .base _ rfl⟩⟩
              cases hse : s.e with
              | normal => rw [hse] at fin; exact fin
              | ret => rw [hse] at fin; exact fin
              | exit id => rw [hse] at fin; exact fin
              | goto t => rw [hse] at fin; exact fin
            · exact hs.elim
          · exact hq.elim
        · exact hq.elim
      | exit id => rw [heo] at hq; exact hq.elim
      | goto t => rw [heo] at hq; exact hq.elim
      | ret => rw [heo] at hq; exact hq.elim
    · exact h.elim
  · exact h.elim

end Go.Idl

namespace Go.Idl
variable {P : Program} {good : FuncId → Bool} {nat : Nats} {B : Nat}

/-- a block beside -/
theorem Rel.beside {f : Inj} {H : IH} {w : World} (o : Obj) (hR : Rel P f H w) : Rel P f H (w.alloc o) ∧ Grow f H w f H (w.alloc o) ∧ ∀ b e, f b = some e → e.r ≠ w.heap.size := by
  have hne : ∀ b e, f b = some e → e.r ≠ w.heap.size := fun b e hb => by have := hR.bound b e hb; omega
  refine ⟨⟨hR.dom, hR.fresh, fun b e hb => ?_, fun b e ob hb ho => ?_, hR.sep, hR.rosame⟩, ⟨Nat.le_refl _, fun _ _ h => h, f.le_refl, by simp, fun r hr ho => ⟨ho, ?_⟩, fun _ _ h => h, ⟨rfl, rfl, rfl⟩⟩, hne⟩
  · have := hR.bound b e hb; simp; omega
  · rw [heap_alloc, if_neg (hne b e hb)]; exact hR.obj b e ob hb ho
  · rw [heap_alloc, if_neg (by omega)]

theorem entered_inv {g : FuncId} (h : entered P g = true) : ∃ fn, P.funcs[g]? = some fn ∧ fn.body.isSome = true ∧ (fn.name != "runtime.NumGoroutine") = true := by
  unfold entered at h
  split at h
  · rename_i fn hf
    simp only [Bool.and_eq_true] at h
    exact ⟨fn, hf, h.1, h.2⟩
  · cases h

theorem range_sound {G : Nat → Bool} {run : Job → IH → T Out} (hc : CallSpec P G (enterT run nat)) (hrun : CodeSpec P G run) {F : Fence} {v : Operand} {ps : Array Tmp} {x y : Code} {env : Env} {H : IH} {f : Inj} {a : Act} {w : World} {Q : Out → Prop}
    (hF : Free F) (hrd : F.round = none) (hR : Rel P f H w) (hG : Glob G f) (hv : opdOk (globOk f) v = true) (hx : codeOk (globOk f) true x = true) (hy : codeOk (globOk f) true y = true)
    (henv : VRelL P f env a.tmps.toList) (hm : Marks B f w a.defers) (h : (rangeStep P run nat (env.val v) ps x y env H).holds Q) :
    (Code.rangeFunc v ps x y).wpIn F 0 P (XPost P B f H w Q) a w := by
  have hev := eval_rel henv hv
  unfold rangeStep at h
  split at h
  · rename_i g first captured hg
    rw [hg] at hev
    cases hent : entered P g with
    | false => rw [hent] at h; exact h.elim
    | true =>
      rw [hent] at h
      simp only [cond_true] at h
      obtain ⟨fn, hfn, hbody, hname⟩ := entered_inv hent
      rcases hev.func_inv with ⟨g', a', c', hg', hev', h1, h2⟩ | ⟨l, e, hg', _⟩
      · cases hg'
        refine wpIn_rangeFunc fun fnid _ => ?_
        have hround : F.round = none := hrd
        obtain ⟨b1, b2, b3⟩ := hR.beside (.deferred (some []))
        have hnone : f H.size = none := addN_none hR
        let e0 : Emb := ⟨w.heap.size + 1, 0, 0, false⟩
        have hle : f.le (f.add H.size e0) := Inj.le_add hnone
        have hO : ORel P (f.add H.size e0) e0 (.loop { state := .ready, pending := none, fn := 0, tmps := env.toArray, params := ps, assign := x, body := y, defers := 0 })
            (some (.loop { state := .ready, pending := none, fn := fnid, tmps := a.tmps, params := ps, assign := x, body := y, defers := w.heap.size })) :=
          ⟨rfl, _, rfl, rfl, rfl, rfl, rfl, rfl, by simpa using henv.mono hle, codeOk_mono (globOk_mono hle) _ _ hx, codeOk_mono (globOk_mono hle) _ _ hy, (fun c hc => by cases hc), rfl⟩
        obtain ⟨p1, p2⟩ := Rel.push (e := e0) b1 (by simp [e0]) hO
        let w1 : World := (w.alloc (.deferred (some []))).alloc (.loop { state := .ready, pending := none, fn := fnid, tmps := a.tmps, params := ps, assign := x, body := y, defers := w.heap.size })
        refine ⟨w.heap.size + 1, [{ target := .collected w.heap.size, args := #[] }], w1, { target := .fn (.func g) c', args := a' ++ #[.func (.yield (w.heap.size + 1)) #[] #[]] }, w1, g, a' ++ #[.func (.yield (w.heap.size + 1)) #[] #[]] ++ c', w1,
          by rw [hround]; exact run_enterLoop_outer fnid a.tmps ps x y, ?_, fun f' _ => hF.fn f', ?_, fun hd => absurd hd (by rw [hF.depth]; simp), ?_⟩
        · simp only [resolve, rangeCall]
          rw [hev']
          simp [Deferred.ofValue, Act.eval]
        · simp only [invoke]
          exact run_callFunc_enter hfn hbody hname
        · have hall : VRelL P (f.add H.size e0) (appR first.toList (Value.func (Fn.yield H.size) #[] #[] :: captured.toList)) (a'.toList ++ (Value.func (Fn.yield (w.heap.size + 1)) #[] #[] :: c'.toList)) := by
            rw [appR_eq]
            refine (h1.mono hle).append (.cons ?_ (h2.mono hle))
            have := VRel.yield (P := P) (Inj.add_same (f := f) (b := H.size) (e := e0))
            exact this
          rw [T.holds_bind] at h
          have hcall := hc g _ _ _ _ w1 _ p1 (hG.mono hle) hall h
          have harr : (a'.toList ++ (Value.func (Fn.yield (w.heap.size + 1)) #[] #[] :: c'.toList)).toArray = a' ++ #[.func (.yield (w.heap.size + 1)) #[] #[]] ++ c' := by apply Array.ext'; simp
          rw [harr] at hcall
          have hg1 : Grow f H w (f.add H.size e0) _ w1 := b2.trans p2
          have hmark : Marks B (f.add H.size e0) w1 ([{ target := .collected w.heap.size, args := #[] }] ++ a.defers) := by
            refine ⟨⟨w.heap.size, rfl, Marks.le hm, by simp [w1]; omega, ?_, ?_, ?_⟩, Marks.grow hg1 _ hm⟩
            · show w1.heap[w.heap.size]? = _
              rw [heap_alloc, if_neg (by simp), heap_alloc, if_pos rfl]
            · intro b e hb
              by_cases hbs : b = H.size
              · subst hbs; rw [Inj.add_same] at hb; cases hb; simp [e0]
              · rw [Inj.add_other hbs] at hb; exact b3 b e hb
            · have key : ∀ (ds : List Deferred), Marks B f w ds → ∀ d' ∈ ds, d'.target ≠ .collected w.heap.size := by
                intro ds
                induction ds with
                | nil => intro _ d' hd'; cases hd'
                | cons d ds ih =>
                  rintro ⟨⟨r, q1, _, q2, _⟩, q3⟩ d' hd'
                  rcases List.mem_cons.1 hd' with rfl | hd'
                  · rw [q1]; intro hx; cases hx; omega
                  · exact ih q3 d' hd'
              exact key _ hm
          refine CallsIn.mono (hF.calls hcall) ?_
          rintro e w3 ⟨v', r, f3, rfl, hq, k1, k2, k3⟩
          unfold afterRange at hq
          split at hq
          · rename_i lp hgl
            split at hq
            · exact hq.elim
            · rename_i hbusy
              have he3 : f3 H.size = some e0 := k2.le _ _ Inj.add_same
              obtain ⟨_, lp', t1, t2, t3, t4, t5, t6, t7, t8, t9, t10, t11⟩ := loop_obj k1 he3 hgl
              obtain ⟨u1, u2⟩ := put_loop .exhausted lp.pending t10 k1 he3 hgl t1
              have hend := run_endLoop (P := P) t1 (by rw [t2]; simpa using hbusy)
              have hg3 : Grow f H w f3 _ _ := (hg1.trans k2).trans u2
              have e1 : ({ lp' with state := .exhausted, pending := lp.pending } : Loop) = { lp' with state := .exhausted } := by rw [← t3]
              rw [e1] at u1 u2 hg3
              have hend' : (Instr.endLoop (w.heap.size + 1)).run P w3 = .ok lp.pending (w3.putObj (w.heap.size + 1) (.loop { lp' with state := .exhausted })) := by
                have := hend
                rw [show (Instr.endLoop (w.heap.size + 1)) = Instr.endLoop e0.r from rfl, this, t3]
              refine ⟨lp.pending, _, hend', ?_⟩
              split at hq
              · rename_i hp
                rw [hp]
                have e2 : ({ lp with state := .exhausted, pending := lp.pending } : Loop) = { lp with state := .exhausted } := rfl
                rw [e2] at u1
                exact ⟨⟨.normal, env, _⟩, f3, hq, rfl, u1, hg3, henv.mono hg3.le, Marks.grow (k2.trans u2) _ hmark⟩
              · rename_i c hp
                rw [hp]
                have hj := t10 c hp
                have hok : codeOk (globOk f3) F.round.isSome c = true := by cases c <;> first | rfl | cases hj
                exact wpIn_mono (hrun B F _ c env _ f3 _ _ Q hF rfl u1 (hG.mono hg3.le) hok (henv.mono hg3.le) (Marks.grow (k2.trans u2) _ hmark) hq) fun e a w => xpost_mono hg3 fun _ h => h
          · exact hq.elim
      · cases hg'
  · exact h.elim

end Go.Idl

namespace Go.Idl
variable {P : Program} {good : FuncId → Bool} {nat : Nats}

/-- contracts of whole functions, as they are given -/
def NatSpec (P : Program) (G : Nat → Bool) (nat : Nats) : Prop :=
  ∀ (g : FuncId) (k : List Value → IH → T (Value × IH)), nat g = some k → ∀ (args args' : List Value) (H : IH) (f : Inj) (w : World) (Q : Value × IH → Prop), Rel P f H w → Glob G f → VRelL P f args args' → (k args H).holds Q →
    CallsIn Fence.wide 0 P g args'.toArray w (Comes P f H w Q)

theorem scope_sound {G : Nat → Bool} {run : Job → IH → T Out} {B : Nat} (hrun : CodeSpec P G run) {F : Fence} {rd : Bool} {x : Code} {env : Env} {H : IH} {f : Inj} {a : Act} {w : World} {Q : Out → Prop} (hF : Free F) (hrd : rd = F.round.isSome) (hR : Rel P f H w) (hG : Glob G f)
    (hx : codeOk (globOk f) rd x = true) (henv : VRelL P f env a.tmps.toList) (hm : Marks B f w a.defers) (h : ((run (.code x env) H).bind scopeStep).holds Q) :
    (Code.scope x).wpIn F 0 P (XPost P B f H w Q) a w := by
  rw [T.holds_bind] at h
  refine wpIn_scope_straight (wpIn_mono (hrun B F rd x env H f a w _ hF hrd hR hG hx henv hm h) ?_)
  rintro e a' w' ⟨o, f', hq, rfl, h1, h2, h3, h4⟩
  unfold scopeStep at hq
  cases he : o.e with
  | normal => rw [he] at hq; exact ⟨o, f', hq, by rw [he], h1, h2, h3, h4⟩
  | exit id => rw [he] at hq; exact ⟨o, f', hq, by rw [he], h1, h2, h3, h4⟩
  | goto l => rw [he] at hq; exact hq.elim
  | ret => rw [he] at hq; exact ⟨o, f', hq, by rw [he], h1, h2, h3, h4⟩

theorem sound_all {G : Nat → Bool} (hn : NatExt nat) (hnat : NatSpec P G nat) (hgood : Goods P good G) (hdraw : ∀ run, RunExt run → CallSpec P G (enterT run nat) → RoundSpec P G run → DrawSpec P G nat run) :
    ∀ n, CodeSpec P G (iex P good nat n) ∧ CallSpec P G (enterT (iex P good nat n) nat) ∧ RoundSpec P G (iex P good nat n) := by
  intro n
  induction n using Nat.strongRecOn with
  | _ n ih =>
    have hcode : CodeSpec P G (iex P good nat n) := by
      cases n with
      | zero => intro B F rd c env H f a w Q _ _ _ _ _ _ _ h; exact h.elim
      | succ n =>
        obtain ⟨h1, h2, h3⟩ := ih n (Nat.lt_succ_self n)
        intro B F rd c env H f a w Q hF hrd hR hG hok henv hm h
        have h' : (codeStep P (iex P good nat n) nat c env H).holds Q := h
        cases c with
        | skip => exact wpIn_skip (xpost_ret (e := .normal) hR henv hm h')
        | label l => exact wpIn_label (xpost_ret (e := .normal) hR henv hm h')
        | ret => exact wpIn_ret (xpost_ret (e := .ret) hR henv hm h')
        | exit id => exact wpIn_exit (xpost_ret (e := .exit id) hR henv hm h')
        | seq x y =>
          simp only [codeOk, Bool.and_eq_true] at hok
          exact seq_sound h1 hF hrd hR hG hok.1 hok.2 henv hm h'
        | cond v x y =>
          simp only [codeOk, Bool.and_eq_true] at hok
          exact cond_sound h1 hF hrd hR hG hok.1 hok.2.1 hok.2.2 henv hm h'
        | block id x => exact block_sound h1 hF hrd hR hG hok henv hm h'
        | loop x => exact loop_sound hn hF hrd (n + 1) (fun m hm => (ih m hm).1) hR hG hok henv hm h
        | region id ops draw =>
          simp only [codeOk, Bool.and_eq_true] at hok
          exact region_sound h2 h3 (hdraw _ (iex_ext hn n) h2 h3) hF hR hG hok.1 hok.2 henv hm h'
        | rangeFunc v ps x y =>
          simp only [codeOk, Bool.and_eq_true] at hok
          have hround : F.round = none := by
            have : rd = false := by simpa using hok.1
            rw [this] at hrd
            cases hr : F.round with
            | none => rfl
            | some l => rw [hr] at hrd; cases hrd
          exact range_sound h2 h1 hF hround hR hG hok.2.1 hok.2.2.1 hok.2.2.2 henv hm h'
        | scope x => exact scope_sound h1 hF hrd hR hG hok henv hm h'
        | goto l => exact h'.elim
        | refuse s => exact h'.elim
    refine ⟨hcode, ?_, ?_⟩
    · intro g args args' H f w Q hR hG ha h
      unfold enterT at h
      split at h
      · rename_i k hk; exact hnat g k hk args args' H f w Q hR hG ha h
      · cases n with
        | zero => exact h.elim
        | succ n => exact call_sound hn hgood n (ih n (Nat.lt_succ_self n)).1 g args args' H f w Q hR hG ha h
    · intro l args args' H f w e Q hR hG he ha h
      cases n with
      | zero => exact h.elim
      | succ n => exact round_sound n (ih n (Nat.lt_succ_self n)).1 l args args' H f w e Q hR hG he ha h

end Go.Idl
